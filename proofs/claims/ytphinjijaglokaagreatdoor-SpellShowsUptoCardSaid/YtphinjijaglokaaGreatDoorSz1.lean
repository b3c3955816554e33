/- Contracts of functions on bytes, at the seat of patterns: IndexByte, IndexAny of the bytes that no name holds, path.Name. -/
import Derived.Test.YtphinjijaglokaaGreatDoorSz0
import Derived.Test.YtphinjijaglokaaGreatDoorChecked
namespace Go.Pa
def specials : List UInt8 := [47, 0, 10]
end Go.Pa
namespace Go.Vm
open Go Go.Proofs Go.Pa
attribute [local simp] Oks Qr Jm Jq vop Js JB ev evs toV andThen inBlock Jl Fr.dsTo Fr.glTo Fr.toNone Ji Jj Jk Qk Jd JD Jv V.undef JW QM Q9
class NY [Memo] : Prop where
 no : ∀ f, Nat.beq f 84 = false → Nat.beq f 82 = false → (Nat.beq f 7 || Nat.beq f 77 || Nat.beq f 23 || Nat.beq f 45) = false → ∀ args st, (Memo.look f).run args st = none
theorem JlA (s : S) {i : Nat} (h : i < s.n) : ((⟨⟨s.toList⟩⟩ : ByteArray).get! i).toNat = s.at i := by
 have h1 := s.toList_at h
 have h2 : i < s.toList.length := by rw [S.len]; exact h
 rw [List.getElem?_eq_getElem h2] at h1
 have h3 := Option.some.inj h1
 have h4 : (⟨⟨s.toList⟩⟩ : ByteArray).get! i = s.toList[i] := by
  show (⟨s.toList⟩ : Array UInt8)[i]! = _
  simp [List.getElem?_eq_getElem h2]
 rw [h4, h3]
 have := s.at_lt i
 simp; omega
theorem Jht (s : S) {i : Nat} (h : i < s.n) : (s.at i < 128 → Utf8.decode ⟨⟨s.toList⟩⟩ i = (s.at i, 1)) ∧ (128 ≤ s.at i → 128 ≤ (Utf8.decode ⟨⟨s.toList⟩⟩ i).1 ∧
  ((Utf8.decode ⟨⟨s.toList⟩⟩ i).1 = 65533 ∨ Utf8.valid ((Utf8.decode ⟨⟨s.toList⟩⟩ i).1 : Int) = true) ∧ 1 ≤ (Utf8.decode ⟨⟨s.toList⟩⟩ i).2 ∧ i + (Utf8.decode ⟨⟨s.toList⟩⟩ i).2 ≤ s.n ∧
  ∀ j, i ≤ j → j < i + (Utf8.decode ⟨⟨s.toList⟩⟩ i).2 → 128 ≤ s.at j) := by
 have hsz : (⟨⟨s.toList⟩⟩ : ByteArray).size = s.n := s.len
 have g0 := JlA s h
 have gk : ∀ k, i + k < s.n → ((⟨⟨s.toList⟩⟩ : ByteArray).get! (i + k)).toNat = s.at (i + k) := fun k hk => JlA s hk
 unfold Utf8.decode
 simp only [Nat.add_zero, g0, hsz]
 by_cases h0 : s.at i < 128
 ·rw [if_pos h0]
  exact ⟨fun _ => rfl, fun h => by omega⟩
 ·rw [if_neg h0]
  refine ⟨fun h => by omega, fun _ => ?_⟩
  have one : 128 ≤ (Utf8.runeError, 1).1 ∧ ((Utf8.runeError, 1).1 = 65533 ∨ Utf8.valid (((Utf8.runeError, 1).1 : Nat) : Int) = true) ∧ 1 ≤ (Utf8.runeError, 1).2 ∧ i + (Utf8.runeError, 1).2 ≤ s.n ∧ ∀ j, i ≤ j → j < i + (Utf8.runeError, 1).2 → 128 ≤ s.at j := by
   refine ⟨by decide, .inl rfl, Nat.le_refl _, h, fun j h1 h2 => ?_⟩
   obtain rfl : j = i := by simp at h2; omega
   omega
  have cont : ∀ k, (decide (i + k < s.n) && ((⟨⟨s.toList⟩⟩ : ByteArray).get! (i + k)).toNat / 64 == 2) = true → i + k < s.n ∧ 128 ≤ s.at (i + k) := fun k hk => by
   simp only [Bool.and_eq_true, decide_eq_true_eq, beq_iff_eq] at hk
   rw [gk k hk.1] at hk
   exact ⟨hk.1, by omega⟩
  have hv : ∀ c : Nat, 128 ≤ c → c < 2048 → Utf8.valid (c : Int) = true := fun c h1 h2 => by
   simp only [Utf8.valid, Bool.or_eq_true, Bool.and_eq_true, decide_eq_true_eq]
   left; omega
  split
  ·rename_i hc
   simp only [Bool.and_eq_true] at hc
   obtain ⟨c1, c2⟩ := cont 1 (by simpa using hc.2)
   split
   ·rename_i hge
    refine ⟨hge, .inr (hv _ hge (by omega)), by show 1 ≤ 2; decide, by show i + 2 ≤ s.n; omega, fun j h1 h2 => ?_⟩
    have : j = i ∨ j = i + 1 := by simp at h2; omega
    rcases this with rfl | rfl <;> omega
   ·exact one
  ·split
   ·rename_i hc
    simp only [Bool.and_eq_true] at hc
    obtain ⟨c1, c2⟩ := cont 1 (by simpa using hc.1.2)
    obtain ⟨c3, c4⟩ := cont 2 (by simpa using hc.2)
    split
    ·rename_i hge
     simp only [Bool.and_eq_true, decide_eq_true_eq] at hge
     refine ⟨by have := hge.1; show 128 ≤ _; omega, .inr hge.2, by show 1 ≤ 3; decide, by show i + 3 ≤ s.n; omega, fun j h1 h2 => ?_⟩
     have : j = i ∨ j = i + 1 ∨ j = i + 2 := by simp at h2; omega
     rcases this with rfl | rfl | rfl <;> omega
    ·exact one
   ·split
    ·rename_i hc
     simp only [Bool.and_eq_true] at hc
     obtain ⟨c1, c2⟩ := cont 1 (by simpa using hc.1.1.2)
     obtain ⟨c3, c4⟩ := cont 2 (by simpa using hc.1.2)
     obtain ⟨c5, c6⟩ := cont 3 (by simpa using hc.2)
     split
     ·rename_i hge
      simp only [Bool.and_eq_true, decide_eq_true_eq] at hge
      refine ⟨by have := hge.1; show 128 ≤ _; omega, .inr hge.2, by show 1 ≤ 4; decide, by show i + 4 ≤ s.n; omega, fun j h1 h2 => ?_⟩
      have : j = i ∨ j = i + 1 ∨ j = i + 2 ∨ j = i + 3 := by simp at h2; omega
      rcases this with rfl | rfl | rfl | rfl <;> omega
     ·exact one
    ·exact one
theorem Ji7 {c : Nat} (hv : Utf8.valid (c : Int) = true) (h : ¬ c < 0x80) (h2 : c < 0x800) : (Utf8.encode (c : Int)).data.toList = [UInt8.ofNat (0xC0 + c / 64), UInt8.ofNat (0x80 + c % 64)] := by
 unfold Utf8.encode
 simp only [hv, if_true, Int.toNat_natCast, h, h2, if_false]
theorem Jhu {c : Nat} (hv : Utf8.valid (c : Int) = true) (h : ¬ c < 0x80) (h2 : ¬ c < 0x800) (h3 : c < 0x10000) : (Utf8.encode (c : Int)).data.toList = [UInt8.ofNat (0xE0 + c / 4096), UInt8.ofNat (0x80 + c / 64 % 64), UInt8.ofNat (0x80 + c % 64)] := by
 unfold Utf8.encode
 simp only [hv, if_true, Int.toNat_natCast, h, h2, h3, if_false]
theorem Jh2 {c : Nat} (hv : Utf8.valid (c : Int) = true) (h : ¬ c < 0x80) (h2 : ¬ c < 0x800) (h3 : ¬ c < 0x10000) : (Utf8.encode (c : Int)).data.toList = [UInt8.ofNat (0xF0 + c / 262144), UInt8.ofNat (0x80 + c / 4096 % 64), UInt8.ofNat (0x80 + c / 64 % 64), UInt8.ofNat (0x80 + c % 64)] := by
 unfold Utf8.encode
 simp only [hv, if_true, Int.toNat_natCast, h, h2, h3, if_false]
theorem Jhv {n : Nat} (h1 : 128 ≤ n) (h2 : n < 256) : 128 ≤ (UInt8.ofNat n).toNat := by simp; omega
theorem Jhw {c : Nat} (h : 128 ≤ c) (hv : Utf8.valid (c : Int) = true) : 2 ≤ (Utf8.encode (c : Int)).data.toList.length ∧ (Utf8.encode (c : Int)).data.toList.length ≤ 4 ∧ ∀ b ∈ (Utf8.encode (c : Int)).data.toList, 128 ≤ b.toNat := by
 have hmax : c < 1114112 := by
  simp only [Utf8.valid, Bool.or_eq_true, Bool.and_eq_true, decide_eq_true_eq] at hv
  omega
 have hn : ¬ c < 0x80 := by omega
 by_cases h2 : c < 0x800
 ·rw [Ji7 hv hn h2]
  refine ⟨by simp, by simp, fun b hb => ?_⟩
  simp only [List.mem_cons, List.not_mem_nil, or_false] at hb
  rcases hb with rfl | rfl <;> exact Jhv (by omega) (by omega)
 ·by_cases h3 : c < 0x10000
  ·rw [Jhu hv hn h2 h3]
   refine ⟨by simp, by simp, fun b hb => ?_⟩
   simp only [List.mem_cons, List.not_mem_nil, or_false] at hb
   rcases hb with rfl | rfl | rfl <;> exact Jhv (by omega) (by omega)
  ·rw [Jh2 hv hn h2 h3]
   refine ⟨by simp, by simp, fun b hb => ?_⟩
   simp only [List.mem_cons, List.not_mem_nil, or_false] at hb
   rcases hb with rfl | rfl | rfl | rfl <;> exact Jhv (by omega) (by omega)
set_option maxRecDepth 100000 in
theorem Ji8 {st : St} {c : Int} : QJ Tryz.prog st 21 9 (.int .i32 c) = some (.str (S.ofList (Utf8.encode c).data.toList)) := by
 have h : QJ Tryz.prog st 21 9 (.int .i32 c) = QQ Tryz.prog (fun l => convert 21 9 (l.getD 0 undef)) [.int .i32 c] := by
  simp only [QJ, Tryz.underlying21, Tryz.underlying9]
 rw [h]
 simp only [QQ, Jd, ofV]
 have h2 : Q2 Tryz.prog (convert 21 9 (.int .i32 c)) = some (.string (Utf8.encode c)) := by
  simp only [convert, Jay, QP Tryz.underlying21, QP Tryz.underlying9, Option.bind_some]
  rfl
 show (match Q2 Tryz.prog (convert 21 9 (.int .i32 c)) with
  | some v => toV 6 v
  | none => none) = _
 rw [h2]
 rfl
set_option maxRecDepth 100000 in
theorem Ji9 {st : St} {c : Nat} (hc : c < 128) : QJ Tryz.prog st 21 5 (.int .i32 (c : Int)) = some (.int .u8 (c : Int)) := by
 have h : QJ Tryz.prog st 21 5 (.int .i32 (c : Int)) = QQ Tryz.prog (fun l => convert 21 5 (l.getD 0 undef)) [.int .i32 (c : Int)] := by
  simp only [QJ, Tryz.underlying21, Tryz.underlying5]
 rw [h]
 simp only [QQ, Jd, ofV]
 have h2 : Q2 Tryz.prog (convert 21 5 (.int .i32 (c : Int))) = some (.int .u8 (IntKind.u8.wrap (c : Int))) := by
  simp only [convert, Jay, QP Tryz.underlying21, QP Tryz.underlying5, Option.bind_some]
  rfl
 have h3 : IntKind.u8.wrap (c : Int) = (c : Int) := by
  simp [IntKind.wrap, IntKind.bits, IntKind.signed]
  omega
 show (match Q2 Tryz.prog (convert 21 5 (.int .i32 (c : Int))) with
  | some v => toV 6 v
  | none => none) = _
 rw [h2, h3]
 rfl
def specialS : S := S.ofList [47, 0, 10]
theorem JbB : specialS.toList = specials := S.toList_ofList _
theorem JcW : ∀ b ∈ specials, b.toNat < 128 := by decide
def Joi (c : Nat) (st : St) (v : V) (st' : St) : Prop := ∃ w : Int, v = .int .i64 w ∧ (0 ≤ w ↔ c < 128 ∧ UInt8.ofNat c ∈ specials) ∧ Keep st st'
variable [Memo] [NY]
theorem JdD (gl : Gl) (st : St) (s : S) (c : Nat) :
  W Tryz.prog (.call gl 58 [.str s, .int .u8 (c : Int)]) st = .call (.val (.int .i64 (Lib.indexByte s.toList c.toUInt8)) st) := by
 have hx : JaA Tryz.prog Tryz.f69 [.str s, .int .u8 (c : Int)] = some (.int .i64 (Lib.indexByte s.toList c.toUInt8)) := JgJ (by kernel_rfl) (by kernel_rfl) s c
 have hb : Tryz.f69.body = none := rfl
 have hm : (Tryz.f69.name == "runtime.NumGoroutine") = false := by kernel_rfl
 refine Jcq (NY.no _ rfl rfl rfl _ _) Tryz.func58 rfl (by kernel_rfl) ?_
 repeat refine Does.seq ?_
 refine Does.region ?_
 simp
 repeat refine Does.seq ?_
 refine Does.region ?_
 simp [Jd9 Tryz.func69 hm hb hx]
 refine Does.ret ?_
 simp []
theorem JcF (gl : Gl) (st : St) (s : S) (c : Nat) :
  W Tryz.prog (.call gl 34 [.str s, .int .u8 (c : Int)]) st = .call (.val (.int .i64 (Lib.indexByte s.toList c.toUInt8)) st) := by
 have hc := Q1 (JdD gl st s c)
 have hk : Qx Tryz.prog 58 = true := by kernel_rfl
 refine Jcq (NY.no _ rfl rfl rfl _ _) Tryz.func34 rfl (by kernel_rfl) ?_
 repeat refine Does.seq ?_
 refine Does.region ?_
 simp
 repeat refine Does.seq ?_
 refine Does.region ?_
 simp [J6 hk, hc]
 refine Does.ret ?_
 simp []
theorem JlB (gl : Gl) (st : St) (c : Nat) (hv : Utf8.valid (c : Int) = true) : W Tryz.prog (.call gl 104 [.int .i32 (c : Int)]) st = .call (.val (.bool true) st) := by
 simp only [Utf8.valid, Bool.or_eq_true, Bool.and_eq_true, decide_eq_true_eq] at hv
 refine Jcq (NY.no _ rfl rfl rfl _ _) Tryz.func104 rfl (by kernel_rfl) ?_
 repeat refine Does.seq ?_
 refine Does.region ?_
 simp
 repeat refine Does.seq ?_
 refine Does.block ?_
 repeat refine Does.seq ?_
 refine Does.region ?_
 by_cases h1 : (c : Int) < 55296
 ·simp [JaZ, JaO, h1]
  repeat refine Does.seq ?_
  refine Does.condT (by simp) ?_
  repeat refine Does.seq ?_
  refine Does.region ?_
  simp
  refine Does.ret ?_
  simp []
 ·have h2 : (57343 : Int) < (c : Int) := by omega
  have h3 : (c : Int) ≤ 1114111 := by omega
  simp [JaZ, JaO, h1]
  repeat refine Does.seq ?_
  refine Does.condF (by simp) ?_
  repeat refine Does.seq ?_
  refine Does.region ?_
  simp [JaZ, JaO, h2, h3]
  repeat refine Does.seq ?_
  refine Does.condT (by simp) ?_
  repeat refine Does.seq ?_
  refine Does.region ?_
  simp
  refine Does.ret ?_
  simp []
set_option maxRecDepth 100000 in
theorem Jhx (gl : Gl) (hbad : ∀ st, ihCall (W Tryz.prog) gl (.f 82) [.str specialS, .int .i32 65533] st = .val (.int .i64 (-1)) st) (st : St) (c : Nat) (hc : c < 128 ∨ c = 65533 ∨ (128 ≤ c ∧ Utf8.valid (c : Int) = true)) (hno : ∀ args st, c ≠ 65533 → args = [V.str specialS, .int .i32 (c : Int)] → (Memo.look 82).run args st = none) :
  ∃ v st', ihCall (W Tryz.prog) gl (.f 82) [.str specialS, .int .i32 (c : Int)] st = .val v st' ∧ Joi c st v st' := by
 by_cases hcb : c = 65533
 ·subst hcb
  have hcast : (((65533 : Nat)) : Int) = 65533 := by omega
  rw [hcast]
  exact ⟨_, _, hbad st, -1, rfl, ⟨fun h => by omega, fun h => by omega⟩, .refl st⟩
 have hk68 : Qx Tryz.prog 34 = true := by kernel_rfl
 have hk69 : Qx Tryz.prog 104 = true := by kernel_rfl
 have main : ∃ v st', W Tryz.prog (.call gl 82 [.str specialS, .int .i32 (c : Int)]) st = .call (.val v st') ∧ Joi c st v st' := by
  refine Jcf (hno _ _ hcb rfl) Tryz.func82 rfl (by kernel_rfl) ?_
  repeat refine Does.seq ?_
  refine Does.region ?_
  simp
  repeat refine Does.seq ?_
  refine Does.block ?_
  repeat refine Does.seq ?_
  refine Does.region ?_
  have e1 : ∀ kk, Jn Tryz.prog kk .lss 21 (.int .i32 (c : Int)) (.int .i32 128) = some (.bool (decide (c < 128))) := fun kk => JdM rfl
  have e0 : ∀ kk, Jn Tryz.prog kk .leq 21 (.int .i32 0) (.int .i32 (c : Int)) = some (.bool true) := fun kk => by rw [JaZ]; simp
  by_cases h1 : c < 128
  ·rw [decide_eq_true h1] at e1
   have hcall := Q1 (JcF gl st specialS c)
   have hge := JbR specialS.toList c.toUInt8
   rw [JbB] at hge
   have hcc : c.toUInt8 = UInt8.ofNat c := rfl
   generalize hw : Lib.indexByte specialS.toList c.toUInt8 = w at hcall
   rw [JbB] at hw
   rw [hw] at hge
   have hcv := Ji9 (st := st) h1
   simp [e0, e1]
   repeat refine Does.seq ?_
   refine Does.condT (by simp) ?_
   repeat refine Does.seq ?_
   refine Does.region ?_
   simp [Tryz.underlying21, Tryz.underlying5, hcv, J6 hk68, hcall]
   refine Does.ret ?_
   simp
   exact ⟨w, rfl, by rw [hge, hcc]; exact ⟨fun h => ⟨h1, h⟩, fun h => h.2⟩, .refl st⟩
  ·rw [decide_eq_false h1] at e1
   obtain ⟨h128, hv⟩ : 128 ≤ c ∧ Utf8.valid (c : Int) = true := (hc.resolve_left h1).resolve_left hcb
   have e2 : ∀ kk, Jn Tryz.prog kk .eql 21 (.int .i32 (c : Int)) (.int .i32 65533) = some (.bool false) := fun kk => (JdL (m := 65533) (by omega)).trans (by rw [decide_eq_false hcb])
   have hvc := Q1 (JlB gl st c hv)
   simp [e0, e1]
   repeat refine Does.seq ?_
   refine Does.condF (by simp) ?_
   repeat refine Does.seq ?_
   refine Does.region ?_
   simp [e2]
   repeat refine Does.seq ?_
   refine Does.condF (by simp) ?_
   repeat refine Does.seq ?_
   refine Does.region ?_
   simp [J6 hk69, hvc]
   repeat refine Does.seq ?_
   refine Does.condF (by simp) ?_
   refine Does.scope ?_
   repeat refine Does.seq ?_
   refine Does.region ?_
   obtain ⟨l2, l4, hbs⟩ := Jhw h128 hv
   have hcv := Ji8 (st := st) (c := (c : Int))
   have hrl : (S.ofList (Utf8.encode (c : Int)).data.toList).toList = (Utf8.encode (c : Int)).data.toList := S.toList_ofList _
   generalize (Utf8.encode (c : Int)).data.toList = rl at hcv l2 l4 hbs hrl
   have hrn : (S.ofList rl).n = rl.length := rfl
   generalize S.ofList rl = rs at hcv hrl hrn
   have hlr := Jar Tryz.underlying9 (s := rs)
   have hlS := Jar Tryz.underlying9 (s := specialS)
   have hnS : specialS.n = 3 := rfl
   rw [hnS] at hlS
   simp [Tryz.underlying21, Tryz.underlying9, hcv]
   as_aux_lemma =>
   repeat refine Does.seq ?_
   refine Does.region ?_
   obtain ⟨la, hla⟩ : ∃ la, rs.n = la + 1 := ⟨rs.n - 1, by omega⟩
   rw [hla] at hlr
   have w1 : IntKind.i64.wrap (la : Int) = (la : Int) := Jr (by omega) (by omega)
   simp [hlr, JE, w1]
   repeat refine Does.seq ?_
   refine Does.region ?_
   simp
   repeat refine Does.seq ?_
   refine Does.region ?_
   simp
   repeat refine Does.seq ?_
   refine Does.block (Does.loop ?_)
   repeat refine Does.seq ?_
   refine Does.region ?_
   have e3 : ∀ kk, Jn Tryz.prog kk .lss 3 (.int .i64 (la : Int)) (.int .i64 3) = some (.bool (decide (la < 3))) := fun kk => JdM rfl
   by_cases hla3 : la < 3
   rotate_left
   ·rw [decide_eq_false hla3] at e3
    simp [hlS, e3]
    repeat refine Does.seq ?_
    refine Does.condF (by simp) ?_
    refine Does.exit ?_
    simp only [inBlock, if_true, andThen]
    repeat refine Does.seq ?_
    refine Does.region ?_
    simp
    refine Does.ret ?_
    simp
    exact ⟨-1, rfl, by omega, .refl st⟩
   rw [decide_eq_true hla3] at e3
   simp [hlS, e3]
   repeat refine Does.seq ?_
   refine Does.condT (by simp) ?_
   refine Does.skip ?_
   simp
   refine Does.block ?_
   refine Does.scope ?_
   repeat refine Does.seq ?_
   refine Does.draw (b := [0, 0, 3, 0, 0, 24, 63]) (l := [0, 1, 2, 3, 4, 5, 6]) (by kernel_rfl) (by kernel_rfl) (by kernel_rfl) ?_
   have i1 := Qw (P := Tryz.prog) (k := .i64) Tryz.underlying9 (s := specialS) (i := la) (by rw [hnS]; omega)
   have i2 := Qw (P := Tryz.prog) (k := .i64) Tryz.underlying9 (s := rs) (i := la) (by omega)
   have hb1 : specialS.at la < 128 := by
    have := JcW _ (JbB ▸ List.mem_of_getElem? (specialS.toList_at (i := la) (by rw [hnS]; omega)))
    have h2 := specialS.at_lt la
    simp at this; omega
   have hb2 : 128 ≤ rs.at la := by
    have := hbs _ (hrl ▸ List.mem_of_getElem? (rs.toList_at (i := la) (by omega)))
    have h2 := rs.at_lt la
    simp at this; omega
   have e4 : ∀ kk, Jn Tryz.prog kk .neq 5 (.int .u8 (specialS.at la : Int)) (.int .u8 (rs.at la : Int)) = some (.bool true) := fun kk => (JjQ rfl).trans (by rw [decide_eq_false (by omega)]; rfl)
   simp [i1, i2, e4]
   repeat refine Does.seq ?_
   refine Does.condT (by simp) ?_
   repeat refine Does.seq ?_
   refine Does.draw (b := [0, 0, 2, 7, 0, 0, 48, 127, 255]) (l := [0, 1, 2, 3, 4, 5, 6, 7, 8]) (by kernel_rfl) (by kernel_rfl) (by kernel_rfl) ?_
   have hsl := Jbe (P := Tryz.prog) Tryz.underlying9 (s := specialS) (lo := la + 1) (by rw [hnS]; omega) (k := .i64)
   have hw := Jmf (n := la) (m := 1) (by omega)
   have hcall := Q1 (JcF gl { ctr := st.ctr + 7 + 9, box := st.box } (specialS.cut (la + 1) specialS.n) (rs.at la))
   have hnone : Lib.indexByte (specialS.cut (la + 1) specialS.n).toList (rs.at la).toUInt8 = -1 := by
    have hlt : ¬ 0 ≤ Lib.indexByte (specialS.cut (la + 1) specialS.n).toList (rs.at la).toUInt8 := by
     rw [JbR, Jbf _ (by rw [hnS]; omega), JbB]
     intro hm
     have := JcW _ (List.mem_of_mem_drop hm)
     have h2 := rs.at_lt la
     simp [Nat.toUInt8] at this; omega
    rw [Jbl] at hlt ⊢
    split at hlt
    ·omega
    ·rename_i h; rw [if_neg h]
   rw [hnone] at hcall
   simp at hsl hw
   generalize specialS.cut (la + 1) specialS.n = cu at hsl hcall
   simp [Jz, hw, hsl, i2, J6 hk68, hcall]
   repeat refine Does.seq ?_
   refine Does.region ?_
   simp [JaO]
   repeat refine Does.seq ?_
   refine Does.condT (by simp) ?_
   repeat refine Does.seq ?_
   refine Does.region ?_
   simp
   refine Does.ret ?_
   simp
   exact ⟨-1, rfl, by omega, ((Keep.refl st).tick 7).tick 9⟩
 obtain ⟨v, st', h, hr⟩ := main
 exact ⟨v, st', Q1 h, hr⟩
end Go.Vm
namespace Go.Vm
open Go Go.Proofs Go.Pa
theorem Jaj (s : S) : s.same (S.ofList []) = decide (s.n = 0) := by
 rw [S.same_eq, S.toList_ofList, Bool.eq_iff_iff, beq_iff_eq, decide_eq_true_eq]
 constructor
 ·intro h; rw [← S.len, h]; rfl
 ·intro h; exact List.eq_nil_of_length_eq_zero (by rw [S.len, h])
attribute [local simp] Oks Qr Jm Jq vop Js JB ev evs toV andThen inBlock Jl Fr.dsTo Fr.glTo Fr.toNone Ji Jj Jk Qk Jd JD Jv V.undef JW QM Q9
def asciiL : List V := (List.range 256).map fun i => .bool (specials.elem (UInt8.ofNat i))
theorem Jja : asciiL.length = 256 := by simp [asciiL]
theorem Jjb {i : Nat} (h : i < 256) : asciiL[i]? = some (.bool (specials.elem (UInt8.ofNat i))) := by simp [asciiL, h]
theorem Jjc : asciiL.all Qn = true := by simp [asciiL, Qn]
theorem JoA : (match Jat Tryz.prog 115 with
 | some (.agg z) => Nat.beq z.length 256 && z.all Qn
 | _ => false) = true := by kernel_rfl
theorem Jph : ∃ z, Jat Tryz.prog 115 = some (.agg z) ∧ z.length = 256 ∧ z.all Qn = true := by
 have h := JoA
 split at h
 ·rename_i z hz
  simp only [Bool.and_eq_true] at h
  exact ⟨z, hz, Nat.eq_of_beq_eq_true h.1, h.2⟩
 ·cases h
theorem Jpi : Qj Tryz.prog 115 = some 256 := by kernel_rfl
theorem JgU {P : Program} {st : St} {t : TypeId} {id n : Nat} {cs l : List V} {e : TypeId} {fl : Bool} (hs : Qj P t = some n) (hb : st.box.get id = some (.cells cs e fl (some 0))) (hc : cs.length = n) (hl : l.length = n) (ho : l.all Qn = true) :
  Q0 P st t (.ptr id 0) (.agg l) = some { st with box := st.box.put id (.cells l e fl (some 0)) } := by
 have e1 : Nat.beq l.length n = true := by rw [hl, Nat.beq_refl]
 have e2 : Nat.ble (0 + n) cs.length = true := Nat.ble_eq_true_of_le (by omega)
 have e3 : over cs 0 l = l := by simp [over, hl, hc]
 simp only [Q0, hs, hb, V.cells, e1, e2, ho, Jb6, Nat.ble, Bool.and_self, e3]
theorem JkT {P : Program} {st : St} {t : TypeId} {s : S} (hT : P.underlying t = some .string) : Jgq P st t (.str s) = some (.ptr st.ctr 0, { st with ctr := st.ctr + 1, box := st.box.put st.ctr (.iter s 0) }) := by
 simp only [Jgq, hT]
theorem Jjd {st : St} {id pos : Nat} {s : S} (hb : st.box.get id = some (.iter s pos)) (h : pos < s.n) : Jgr st (.ptr id 0) true = some (.tup [.bool true, .int .i64 (pos : Int), .int .i32 ((Utf8.decode ⟨⟨s.toList⟩⟩ pos).1 : Int)], { st with box := st.box.put id (.iter s (pos + (Utf8.decode ⟨⟨s.toList⟩⟩ pos).2)) }) := by
 have : Nat.blt pos s.n = true := by rw [JbD]; exact decide_eq_true h
 simp only [Jgr, hb, this]
 rfl
theorem Jje {st : St} {id pos : Nat} {s : S} (hb : st.box.get id = some (.iter s pos)) (h : ¬ pos < s.n) : Jgr st (.ptr id 0) true = some (.tup [.bool false], st) := by
 have : Nat.blt pos s.n = false := by rw [JbD]; exact decide_eq_false h
 simp only [Jgr, hb, this]
def JaK (l : List UInt8) : Bool := l.any fun b => specials.elem b
theorem JdW {s : S} {n : Nat} (hn : n < s.n) : JaK (s.toList.take (n + 1)) = (JaK (s.toList.take n) || specials.elem (UInt8.ofNat (s.at n))) := by
 unfold JaK
 rw [List.take_add_one, s.toList_at hn, List.any_append]
 simp
theorem Jjf {s : S} {n : Nat} (hn : n < s.n) (h : specials.elem (UInt8.ofNat (s.at n)) = true) : JaK s.toList = true := by
 unfold JaK
 rw [List.any_eq_true]
 exact ⟨_, List.mem_of_getElem? (s.toList_at hn), h⟩
theorem Jh3 {s : S} {n : Nat} : ∀ m, n + m ≤ s.n → (∀ j, n ≤ j → j < n + m → 128 ≤ s.at j) → JaK (s.toList.take n) = false → JaK (s.toList.take (n + m)) = false
 | 0, _, _, h => h
 | m + 1, hm, hj, h => by
  have ih := Jh3 m (by omega) (fun j h1 h2 => hj j h1 (by omega)) h
  rw [← Nat.add_assoc, JdW (by omega), ih, Bool.false_or]
  cases he : specials.elem (UInt8.ofNat (s.at (n + m))) with
  | false => rfl
  | true =>
   have h1 := JcW _ (by simpa using he)
   have h2 := s.at_lt (n + m)
   have h3 := hj (n + m) (by omega) (by omega)
   simp at h1; omega
def JpT (s : S) (st : St) (v : V) (st' : St) : Prop := ∃ w : Int, v = .int .i64 w ∧ decide (0 ≤ w) = JaK s.toList ∧ Keep st st'
def JpU (gl : Gl) (s : S) (st : St) (e : AE) (fr' : Fr) (st' : St) : Prop := Keep st st' ∧ fr'.ds = [] ∧ ((e = AE.ret ∧ ∃ w : Int, Fr.at fr' 4 = .int .i64 w ∧ decide (0 ≤ w) = JaK s.toList) ∨ (e = AE.normal ∧ fr'.gl = gl ∧ Fr.at fr' 0 = .str s ∧ Fr.at fr' 1 = .str specialS))
structure Hits [Memo] (gl : Gl) (aL : List V) : Prop where
 len : aL.length = 256
 get : ∀ i, i < 256 → aL[i]? = some (.bool (specials.elem (UInt8.ofNat i)))
 one : aL.all Qn = true
 set : ∀ st, ihCall (W Tryz.prog) gl (.f 84) [.str specialS] st = .val (.tup [.agg aL, .bool true]) st
 bad : ∀ st, ihCall (W Tryz.prog) gl (.f 82) [.str specialS, .int .i32 65533] st = .val (.int .i64 (-1)) st
 no : ∀ (c : Nat) st, c ≠ 65533 → (Memo.look 82).run [V.str specialS, .int .i32 (c : Int)] st = none
variable [Memo] [NY]
theorem Jh4 (gl : Gl) (st : St) (id : Nat) (e : TypeId) (fl : Bool) {aL : List V} (hget : ∀ i, i < 256 → aL[i]? = some (.bool (specials.elem (UInt8.ofNat i)))) (hb : st.box.get id = some (.cells aL e fl (some 0))) (c : Nat) (hc : c < 256) :
  W Tryz.prog (.call gl 85 [.ptr id 0, .int .u8 (c : Int)]) st = .call (.val (.bool (specials.elem (UInt8.ofNat c))) st) := by
 have z4 : Qj Tryz.prog 4 = some 1 := by kernel_rfl
 have a4 : Jag Tryz.prog 4 = some false := by kernel_rfl
 have hblt : Nat.blt c 256 = true := by rw [JbD]; exact decide_eq_true hc
 have hia : Jo Tryz.prog 115 (.ptr id 0) (.int .u8 (c : Int)) = some (.ptr id c) := by
  simp only [Jo, Tryz.underlying115, Q6, z4, hblt, Nat.mul_one, Nat.zero_add]
 have hl := Qd (P := Tryz.prog) (off := c) a4 z4 hb (hget c hc)
 generalize specials.elem (UInt8.ofNat c) = b at hl
 refine Jcq (NY.no _ rfl rfl rfl _ _) Tryz.func85 rfl (by kernel_rfl) ?_
 repeat refine Does.seq ?_
 refine Does.region ?_
 simp
 repeat refine Does.seq ?_
 refine Does.region ?_
 simp [hia, hl]
 refine Does.ret ?_
 simp []
theorem JkU (gl : Gl) (st : St) (n : Nat) : W Tryz.prog (.call gl 83 [.int .i64 (n : Int)]) st = .call (.val (.bool (decide (8 < n))) st) := by
 have e1 : ∀ kk, Jn Tryz.prog kk .gtr 3 (.int .i64 (n : Int)) (.int .i64 8) = some (.bool (decide (8 < n))) := fun kk => Jgg rfl
 generalize decide (8 < n) = b at e1
 refine Jcq (NY.no _ rfl rfl rfl _ _) Tryz.func83 rfl (by kernel_rfl) ?_
 repeat refine Does.seq ?_
 refine Does.region ?_
 simp
 repeat refine Does.seq ?_
 refine Does.region ?_
 simp [e1]
 refine Does.ret ?_
 simp []
set_option maxHeartbeats 1000000 in
set_option maxRecDepth 100000 in
theorem Jh5 (gl : Gl) {aL : List V} (hh : Hits gl aL) (st : St) (s : S) (hs : s.n < 4000000000000000000) :
  ∃ v st', W Tryz.prog (.call gl 70 [.str s, .str specialS]) st = .call (.val v st') ∧ JpT s st v st' := by
 have hk62 : Qx Tryz.prog 82 = true := by kernel_rfl
 have hk63 : Qx Tryz.prog 83 = true := by kernel_rfl
 have hk64 : Qx Tryz.prog 84 = true := by kernel_rfl
 have hk65 : Qx Tryz.prog 85 = true := by kernel_rfl
 have hlen := Jar Tryz.underlying9 (s := s)
 have hlS := Jar Tryz.underlying9 (s := specialS)
 have hnS : specialS.n = 3 := rfl
 rw [hnS] at hlS
 have hsS : specialS.same (S.ofList []) = false := by rw [Jaj, hnS]; rfl
 refine Jcf (NY.no _ rfl rfl rfl _ _) Tryz.func70 rfl (by kernel_rfl) ?_
 repeat refine Does.seq ?_
 refine Does.region ?_
 simp
 repeat refine Does.seq ?_
 refine Does.region ?_
 simp [Jt, hsS]
 repeat refine Does.seq ?_
 refine Does.condF (by simp) ?_
 refine Does.skip ?_
 simp
 repeat refine Does.seq ?_
 refine Does.region ?_
 simp [hlS, Jb4]
 repeat refine Does.seq ?_
 refine Does.condF (by simp) ?_
 refine Does.skip ?_
 simp
 repeat refine Does.seq ?_
 refine Does.region ?_
 have hsh := Q1 (JkU gl st s.n)
 refine Oks.cont (Q := fun fr st' => st' = st ∧ Fr.at fr 26 = .bool (decide (8 < s.n)) ∧ fr.ds = [] ∧ fr.gl = gl ∧ Fr.at fr 0 = .str s ∧ Fr.at fr 1 = .str specialS) ?r8 ?rest
 case r8 =>
  generalize decide (8 < s.n) = b at hsh
  simp [hlen, J6 hk63, hsh]
 case rest =>
 rintro fr st' ⟨hst', h26, hds, hg, h0, h1⟩
 rw [hst']
 clear hst'
 simp only [andThen]
 repeat refine Does.seq ?_
 refine Does.mono (Q := JpU gl s st) ?big ?tail
 case big =>
  by_cases h8 : 8 < s.n
  ·rw [decide_eq_true h8] at h26
   refine Does.condT (by simp [h26]) ?_
   repeat refine Does.seq ?_
   refine Does.region ?_
   have hset := hh.set st
   obtain ⟨z256, hz67, hzl, hz1⟩ := Jph
   have hzc : (V.agg z256).cells = z256 := rfl
   have hst := JgU (P := Tryz.prog) (st := { ctr := st.ctr + 1, box := st.box.put st.ctr (.cells z256 115 true (some 0)) }) (id := st.ctr) (cs := z256) (l := aL) (e := 115) (fl := true) Jpi (by rw [Tr.get_put, if_pos rfl]) hzl hh.len hh.one
   have hkp : Keep st { ctr := st.ctr + 1, box := (st.box.put st.ctr (.cells z256 115 true (some 0))).put st.ctr (.cells aL 115 true (some 0)) } := Keep.put (id := st.ctr) ((Keep.refl st).new _) (Nat.le_refl _) _
   have hbx : ({ ctr := st.ctr + 1, box := (st.box.put st.ctr (.cells z256 115 true (some 0))).put st.ctr (.cells aL 115 true (some 0)) } : St).box.get st.ctr = some (.cells aL 115 true (some 0)) := by rw [Tr.get_put, if_pos rfl]
   simp only at hst
   obtain ⟨b1, hb1⟩ : ∃ b, b = true := ⟨true, rfl⟩
   have hz2 : z256.all Qn = b1 := by rw [hz1, hb1]
   simp [h1, hg, J6 hk64, hset, JK, hz67, hzc, hz2, hb1, Qq, QL, hst]
   revert hkp hbx
   generalize ({ ctr := st.ctr + 1, box := (st.box.put st.ctr (.cells z256 115 true (some 0))).put st.ctr (.cells aL 115 true (some 0)) } : St) = st1
   intro hkp hbx
   repeat refine Does.seq ?_
   refine Does.region ?_
   simp
   repeat refine Does.seq ?_
   refine Does.condT (by simp) ?_
   repeat refine Does.seq ?_
   refine Does.region ?_
   simp
   refine Does.mono (Q := fun e fr' st' => st' = st1 ∧ fr'.ds = [] ∧ ((e = AE.ret ∧ ∃ w : Int, Fr.at fr' 4 = .int .i64 w ∧ decide (0 ≤ w) = JaK s.toList) ∨ (e = AE.normal ∧ JaK s.toList = false))) ?aloop ?atail
   case atail =>
    rintro e fr' st' ⟨rfl, hds, ⟨rfl, w, h4, hw⟩ | ⟨rfl, hno⟩⟩
    ·exact ⟨hkp, hds, .inl ⟨rfl, w, h4, hw⟩⟩
    ·simp only [andThen]
     repeat refine Does.seq ?_
     refine Does.region ?_
     simp
     refine Does.ret ?_
     exact ⟨hkp, by simp [hds], .inl ⟨rfl, -1, by simp, by rw [hno]; rfl⟩⟩
   case aloop =>
    generalize hA : JaK s.toList = A
    refine Does.block (Does.up s.n (fun n fr st' => st' = st1 ∧ fr.ds = [] ∧ fr.gl = gl ∧ Fr.at fr 0 = .str s ∧ Fr.at fr 6 = .ptr st.ctr 0 ∧ Fr.at fr 8 = .int .i64 (n : Int) ∧ n ≤ s.n ∧ JaK (s.toList.take n) = false) 0 ?init ?QD ?step)
    case init => exact ⟨rfl, by simp [hds], by simp [hg], by simp [h0], by simp, by simp, Nat.zero_le _, rfl⟩
    case QD => exact fun i fr st' h => h.2.2.2.2.2.2.1
    case step =>
     clear hds hg h0 h1
     rintro n fr st' ⟨rfl, hds, hg, h0, h6, h8', hn, hall⟩
     repeat refine Does.seq ?_
     refine Does.region ?_
     have elen : ∀ kk, Jn Tryz.prog kk .lss 3 (.int .i64 (n : Int)) (.int .i64 (s.n : Int)) = some (.bool (decide (n < s.n))) := fun kk => JdM rfl
     by_cases hlt : n < s.n
     ·rw [decide_eq_true hlt] at elen
      have hix2 := Qw (P := Tryz.prog) (k := .i64) Tryz.underlying9 hlt
      have hco := Q1 (Jh4 gl st' st.ctr 115 true hh.get hbx (s.at n) (s.at_lt n))
      have w1 : IntKind.i64.wrap ((n : Int) + 1) = (n : Int) + 1 := Jr (by omega) (by omega)
      simp [h0, h8', hlen, elen]
      repeat refine Does.seq ?_
      refine Does.condT (by simp) ?_
      refine Does.skip ?_
      simp
      repeat refine Does.seq ?_
      refine Does.block ?_
      repeat refine Does.seq ?_
      refine Does.region ?_
      cases hcc : specials.elem (UInt8.ofNat (s.at n)) with
      | true =>
       rw [hcc] at hco
       simp [h0, h6, h8', hg, hix2, J6 hk65, hco]
       repeat refine Does.seq ?_
       refine Does.condT (by simp) ?_
       repeat refine Does.seq ?_
       refine Does.region ?_
       simp [h8']
       refine Does.ret ?_
       simp only [inBlock, andThen]
       exact ⟨trivial, by simp [hds], .inl ⟨trivial, (n : Int), by simp, by rw [← hA, Jjf hlt hcc]; simp⟩⟩
      | false =>
       rw [hcc] at hco
       simp [h0, h6, h8', hg, hix2, J6 hk65, hco]
       repeat refine Does.seq ?_
       refine Does.condF (by simp) ?_
       refine Does.skip ?_
       simp
       refine Does.region ?_
       simp [h8', Jz, w1]
       exact ⟨n + 1, by omega, hds, hg, h0, h6, by simp, by omega, by rw [JdW hlt, hall, hcc]; rfl⟩
     ·rw [decide_eq_false hlt] at elen
      simp [h0, h8', hlen, elen]
      repeat refine Does.seq ?_
      refine Does.condF (by simp) ?_
      refine Does.exit ?_
      simp only [inBlock, if_true, andThen]
      rw [List.take_of_length_le (by simp; omega)] at hall
      exact ⟨trivial, by simp [hds], .inr ⟨trivial, hA.symm.trans hall⟩⟩
  ·rw [decide_eq_false h8] at h26
   refine Does.condF (by simp [h26]) ?_
   refine Does.skip ?_
   exact ⟨.refl st, hds, .inr ⟨rfl, hg, h0, h1⟩⟩
 case tail =>
  clear hds hg h0 h1 h26
  rintro e fr st1 ⟨hk1, hds, ⟨rfl, w, h4, hw⟩ | ⟨rfl, hg, h0, h1⟩⟩
  ·simp only [andThen]
   simp [hds, h4]
   exact ⟨w, rfl, hw, hk1⟩
  ·simp only [andThen]
   repeat refine Does.seq ?_
   refine Does.region ?_
   have hvr := JkT (P := Tryz.prog) (st := st1) (s := s) Tryz.underlying9
   have hkn : Keep st { st1 with ctr := st1.ctr + 1, box := st1.box.put st1.ctr (.iter s 0) } := hk1.new _
   have hbx : ({ st1 with ctr := st1.ctr + 1, box := st1.box.put st1.ctr (.iter s 0) } : St).box.get st1.ctr = some (.iter s 0) := by rw [Tr.get_put, if_pos rfl]
   have hct : st1.ctr < ({ st1 with ctr := st1.ctr + 1, box := st1.box.put st1.ctr (.iter s 0) } : St).ctr := Nat.lt_succ_self _
   simp [h0, QL, hvr]
   have hst1 : st.ctr ≤ st1.ctr := hk1.ctr
   revert hkn hbx hct
   generalize ({ ctr := st1.ctr + 1, box := st1.box.put st1.ctr (.iter s 0) } : St) = st2
   generalize st1.ctr = id at hst1
   intro hkn hbx hct
   refine Does.mono (Q := fun e fr' st' => Keep st st' ∧ fr'.ds = [] ∧ ((e = AE.ret ∧ ∃ w : Int, Fr.at fr' 4 = .int .i64 w ∧ decide (0 ≤ w) = JaK s.toList) ∨ (e = AE.normal ∧ JaK s.toList = false))) ?rloop ?rtail
   case rtail =>
    clear hds hg h0 h1
    rintro e fr' st' ⟨hk', hds, ⟨rfl, w, h4, hw⟩ | ⟨rfl, hno⟩⟩
    ·simp only [andThen]
     simp [hds, h4]
     exact ⟨w, rfl, hw, hk'⟩
    ·simp only [andThen]
     repeat refine Does.seq ?_
     refine Does.region ?_
     simp
     refine Does.ret ?_
     simp [hds]
     exact ⟨-1, rfl, by rw [hno]; rfl, hk'⟩
   case rloop =>
    generalize hA : JaK s.toList = A
    refine Does.block (Does.up s.n (fun n fr st' => Keep st st' ∧ id < st'.ctr ∧ st'.box.get id = some (.iter s n) ∧ fr.ds = [] ∧ fr.gl = gl ∧ Fr.at fr 1 = .str specialS ∧ Fr.at fr 45 = .ptr id 0 ∧ n ≤ s.n ∧ JaK (s.toList.take n) = false) 0 ?init ?QD ?step)
    case init => exact ⟨hkn, hct, hbx, by simp [hds], by simp [hg], by simp [h1], by simp, Nat.zero_le _, rfl⟩
    case QD => exact fun i fr st' h => h.2.2.2.2.2.2.2.1
    case step =>
     clear hds hg h0 h1 hkn hct hbx hvr
     rintro n fr st' ⟨hk', hct, hbx, hds, hg, h1, h45, hn, hall⟩
     repeat refine Does.seq ?_
     refine Does.region ?_
     by_cases hlt : n < s.n
     ·have hnx := Jjd hbx hlt
      obtain ⟨d1, d2⟩ := Jht s hlt
      generalize Utf8.decode ⟨⟨s.toList⟩⟩ n = d at hnx d1 d2
      obtain ⟨c, wd⟩ := d
      simp only at hnx d2
      simp [h45, QL, hnx]
      have hk2 : Keep st { ctr := st'.ctr, box := st'.box.put id (.iter s (n + wd)) } := hk'.put hst1 _
      have hbx2 : ({ ctr := st'.ctr, box := st'.box.put id (.iter s (n + wd)) } : St).box.get id = some (.iter s (n + wd)) := by rw [Tr.get_put, if_pos rfl]
      have hct2 : id < ({ ctr := st'.ctr, box := st'.box.put id (.iter s (n + wd)) } : St).ctr := hct
      revert hk2 hbx2 hct2
      generalize ({ ctr := st'.ctr, box := st'.box.put id (.iter s (n + wd)) } : St) = st3
      intro hk2 hbx2 hct2
      repeat refine Does.seq ?_
      refine Does.condT (by simp) ?_
      refine Does.skip ?_
      simp
      refine Does.block ?_
      repeat refine Does.seq ?_
      refine Does.region ?_
      simp
      repeat refine Does.seq ?_
      refine Does.region ?_
      have hcc : c < 128 ∨ c = 65533 ∨ (128 ≤ c ∧ Utf8.valid (c : Int) = true) := by
       rcases Nat.lt_or_ge (s.at n) 128 with h | h
       ·have := d1 h
        simp only [Prod.mk.injEq] at this
        left; omega
       ·obtain ⟨q1, q2, _⟩ := d2 h
        rcases q2 with q2 | q2
        ·exact .inr (.inl q2)
        ·exact .inr (.inr ⟨q1, q2⟩)
      obtain ⟨v, st4, hcall, w, rfl, hw, hk4⟩ := Jhx gl hh.bad st3 c hcc (fun args st h1 h2 => by rw [h2]; exact hh.no c st h1)
      have hsp : decide (0 ≤ w) = (decide (s.at n < 128) && specials.elem (UInt8.ofNat (s.at n))) := by
       rw [Bool.eq_iff_iff, decide_eq_true_eq, hw, Bool.and_eq_true, decide_eq_true_eq]
       rcases Nat.lt_or_ge (s.at n) 128 with h | h
       ·have := d1 h
        simp only [Prod.mk.injEq] at this
        obtain ⟨rfl, rfl⟩ := this
        simp
       ·obtain ⟨q1, _⟩ := d2 h
        constructor
        ·rintro ⟨h1, _⟩; omega
        ·rintro ⟨h1, _⟩; omega
      simp [h1, hg, J6 hk62, hcall, Ja0]
      repeat refine Does.seq ?_
      by_cases hw0 : 0 ≤ w
      ·refine Does.condT (by simp [hw0]) ?_
       repeat refine Does.seq ?_
       refine Does.region ?_
       simp
       refine Does.ret ?_
       rw [decide_eq_true hw0] at hsp
       have hsp2 := hsp.symm
       simp only [Bool.and_eq_true] at hsp2
       simp only [inBlock, andThen]
       exact ⟨hk2.trans hk4, by simp [hds], .inl ⟨trivial, (n : Int), by simp, by rw [← hA, Jjf hlt hsp2.2]; simp⟩⟩
      ·refine Does.condF (by simp [hw0]) ?_
       refine Does.skip ?_
       simp
       rw [decide_eq_false hw0] at hsp
       have hbx4 : st4.box.get id = some (.iter s (n + wd)) := by rw [hk4.box id hct2]; exact hbx2
       rcases Nat.lt_or_ge (s.at n) 128 with h | h
       ·have := d1 h
        simp only [Prod.mk.injEq] at this
        obtain ⟨rfl, rfl⟩ := this
        rw [decide_eq_true h, Bool.true_and] at hsp
        exact ⟨n + 1, by omega, hk2.trans hk4, by have := hk4.ctr; omega, hbx4, hds, hg, h1, h45, by omega, by rw [JdW hlt, hall, ← hsp]; rfl⟩
       ·obtain ⟨_, _, q3, q4, q5⟩ := d2 h
        exact ⟨n + wd, by omega, hk2.trans hk4, by have := hk4.ctr; omega, hbx4, hds, hg, h1, h45, q4, Jh3 wd q4 q5 hall⟩
     ·have hnx := Jje hbx hlt
      simp [h45, QL, hnx]
      repeat refine Does.seq ?_
      refine Does.condF (by simp) ?_
      refine Does.exit ?_
      simp only [inBlock, if_true, andThen]
      rw [List.take_of_length_le (by simp; omega)] at hall
      exact ⟨hk', by simp [hds], .inr ⟨trivial, hA.symm.trans hall⟩⟩
theorem JfF (gl : Gl) {aL : List V} (hh : Hits gl aL) (st : St) (s : S) (hs : s.n < 4000000000000000000) :
  ∃ v st', W Tryz.prog (.call gl 59 [.str s, .str specialS]) st = .call (.val v st') ∧ v = .bool (JaK s.toList) ∧ Keep st st' := by
 have hk57 : Qx Tryz.prog 70 = true := by kernel_rfl
 obtain ⟨v, st', hc, w, rfl, hw, hk⟩ := Jh5 gl hh st s hs
 have hc := Q1 hc
 refine Jcf (NY.no _ rfl rfl rfl _ _) Tryz.func59 rfl (by kernel_rfl) ?_
 repeat refine Does.seq ?_
 refine Does.region ?_
 simp
 repeat refine Does.seq ?_
 refine Does.region ?_
 simp [J6 hk57, hc, Ja0]
 refine Does.ret ?_
 rw [← hw]
 simp [hk]
end Go.Vm
namespace Go.Vm
open Go Go.Proofs Go.Pa
attribute [local simp] Oks Qr Jm Jq vop Js JB ev evs toV andThen inBlock Jl Fr.dsTo Fr.glTo Fr.toNone Ji Jj Jk Qk Jd JD Jv V.undef JW QM Q9
theorem JlC [Memo] {P : Program} {ops : Array Oper} (a : List Oper) : ∀ (b : List Oper) (fr : Fr) (st : St), Qr P (ihCall (W P)) none ops (a ++ b) fr st =
  match Qr P (ihCall (W P)) none ops a fr st with
  | .ok fr1 st1 => Qr P (ihCall (W P)) none ops b fr1 st1
  | r => r := by
 induction a with
 | nil => intro b fr st; rfl
 | cons o r ih =>
  intro b fr st
  simp only [List.cons_append, Qr]
  cases Jm ops fr o with
  | false => exact ih ..
  | true =>
   cases Jq o.op with
   | false =>
    cases vop P (ihCall (W P)) fr st o.op with
    | val v st' => exact ih ..
    | panic v st' => rfl
    | fail w => rfl
   | true =>
    generalize JcN P fr o.op = d
    cases d with
    | none => rfl
    | some d => exact ih ..
theorem Oks.cut [Memo] {P : Program} {ops : Array Oper} {l : List Oper} {fr : Fr} {st : St} {Q : Fr → St → Prop} (n : Nat) (R : Fr → St → Prop) (h : Oks P ops (l.take n) fr st R)
  (k : ∀ fr' st', R fr' st' → Oks P ops (l.drop n) fr' st' Q) : Oks P ops l fr st Q := by
 unfold Oks at h ⊢
 rw [← List.take_append_drop n l, JlC]
 cases hx : Qr P (ihCall (W P)) none ops (l.take n) fr st with
 | ok fr1 st1 => rw [hx] at h; exact k fr1 st1 h
 | panic v fr1 st1 => rw [hx] at h; exact h.elim
 | fail w => rw [hx] at h; exact h.elim
def Jbt (s : S) : Bool := !decide (s.n = 0) && decide (s.n ≤ 64) && !s.same (S.ofList [46]) && !s.same (S.ofList [46, 46]) && !JaK s.toList
def Jnm (st st' : St) : Prop := st' = st
def NmF (gl : Gl) (s : S) (st : St) (k : Nat) (b : Bool) (fr : Fr) (st' : St) : Prop := Jnm st st' ∧ fr.ds = [] ∧ fr.gl = gl ∧ Fr.at fr 0 = .str s ∧ Fr.at fr k = .bool b
def NmQ (st : St) (A : Bool) (e : AE) (fr' : Fr) (st' : St) : Prop := Jnm st st' ∧ fr'.ds = [] ∧ ((e = AE.ret ∧ Fr.at fr' 2 = .bool false ∧ A = true) ∨ (e = AE.normal ∧ A = false))
def Jey (s : S) (n : Nat) : Prop := JaK (s.toList.take n) = false
theorem JlD {s : S} {n : Nat} (h : Jey s n) (hn : s.n ≤ n) : JaK s.toList = false := by
 unfold Jey at h; rwa [List.take_of_length_le (by rw [S.len]; exact hn)] at h
theorem JkV {s : S} {n : Nat} (h : Jey s n) (hn : n < s.n) (hb : specials.elem (UInt8.ofNat (s.at n)) = false) : Jey s (n + 1) := by
 unfold Jey at h ⊢; rw [JdW hn, h, hb]; rfl
theorem JoB (c : Nat) (hc : c < 256) : specials.elem (UInt8.ofNat c) = (decide (c = 47) || (decide (c = 0) || decide (c = 10))) := by
 have h (b : Nat) (hb : b < 256) : ((UInt8.ofNat c) == UInt8.ofNat b) = decide (c = b) := by
  rw [Bool.eq_iff_iff, beq_iff_eq, decide_eq_true_iff]
  exact Jdj hc hb
 have e : specials.elem (UInt8.ofNat c) = ((UInt8.ofNat c == UInt8.ofNat 47) || ((UInt8.ofNat c == UInt8.ofNat 0) || ((UInt8.ofNat c == UInt8.ofNat 10) || false))) := by
  simp only [specials, List.elem_cons, List.elem_nil]
  cases UInt8.ofNat c == 47 <;> cases UInt8.ofNat c == 0 <;> cases UInt8.ofNat c == 10 <;> rfl
 rw [e, h 47 (by decide), h 0 (by decide), h 10 (by decide), Bool.or_false]
variable [Memo] [NY]
set_option maxRecDepth 100000 in
theorem JoC (gl : Gl) {aL : List V} (hh : Hits gl aL) (st : St) (s : S) :
  ∃ v st', W Tryz.prog (.call gl 35 [.str s]) st = .call (.val v st') ∧ v = .bool (Jbt s) ∧ Keep st st' := by
 have hk65 : Qx Tryz.prog 59 = true := by kernel_rfl
 have hemp := Jaj s
 have ls := Jar Tryz.underlying9 (s := s)
 have e64 : ∀ kk, Jn Tryz.prog kk .leq 3 (.int .i64 (s.n : Int)) (.int .i64 64) = some (.bool (decide (s.n ≤ 64))) := fun kk => JjR rfl
 unfold Jbt
 have hca : decide (s.n ≤ 64) = true → ∃ v st', ihCall (W Tryz.prog) gl (.f 59) [.str s, .str specialS] st = .val v st' ∧ v = .bool (JaK s.toList) ∧ Keep st st' := fun h => by
  obtain ⟨v, st', h1, h2, h3⟩ := JfF gl hh st s (by have := of_decide_eq_true h; omega)
  exact ⟨v, st', Q1 h1, h2, h3⟩
 refine Jcf (NY.no _ rfl rfl rfl _ _) Tryz.func35 rfl (by kernel_rfl) ?_
 repeat refine Does.seq ?_
 refine Does.region ?_
 simp
 repeat refine Does.seq ?_
 refine Does.region ?_
 generalize decide (s.n = 0) = z at hemp
 generalize decide (s.n ≤ 64) = l at e64 hca
 generalize hd1 : s.same (S.ofList [46]) = d1
 generalize hd2 : s.same (S.ofList [46, 46]) = d2
 generalize JaK s.toList = an at hca
 refine Oks.cut 8 (NmF gl s st 10 (!z && l)) ?c1 ?c2
 case c1 => as_aux_lemma =>
  simp only [List.take]
  cases z with
  | true =>
   simp [Ju, hemp]
   exact ⟨rfl, by simp, by simp, by simp, by simp⟩
  | false =>
   simp [Ju, hemp, ls, e64]
   exact ⟨rfl, by simp, by simp, by simp, by simp⟩
 case c2 => as_aux_lemma =>
 rintro fr st' ⟨hst', hds, hg, h0, h10⟩
 rw [show st' = st from hst']
 clear hst'
 simp only [List.drop]
 generalize hzl : (!z && l) = zl at h10
 refine Oks.cut 4 (NmF gl s st 14 (zl && !d1)) ?c3 ?c4
 case c3 => as_aux_lemma =>
  simp only [List.take]
  cases zl with
  | false =>
   simp [h10]
   exact ⟨rfl, by simp [hds], by simp [hg], by simp [h0], by simp⟩
  | true =>
   simp [h10, h0, Ju, hd1]
   exact ⟨rfl, by simp [hds], by simp [hg], by simp [h0], by simp⟩
 case c4 => as_aux_lemma =>
 clear hds hg h0 h10
 rintro fr st' ⟨hst', hds, hg, h0, h14⟩
 rw [show st' = st from hst']
 clear hst'
 simp only [List.drop]
 generalize hzd : (zl && !d1) = zd at h14
 refine Oks.cut 4 (NmF gl s st 18 (zd && !d2)) ?c5 ?c6
 case c5 => as_aux_lemma =>
  simp only [List.take]
  cases zd with
  | false =>
   simp [h14]
   exact ⟨rfl, by simp [hds], by simp [hg], by simp [h0], by simp⟩
  | true =>
   simp [h14, h0, Ju, hd2]
   exact ⟨rfl, by simp [hds], by simp [hg], by simp [h0], by simp⟩
 case c6 => as_aux_lemma =>
 clear hds hg h0 h14
 rintro fr st' ⟨hst', hds, hg, h0, h18⟩
 rw [show st' = st from hst']
 clear hst'
 simp only [List.drop]
 generalize hze : (zd && !d2) = ze at h18
 cases ze with
 | false =>
  simp [h18]
  refine Does.ret ?_
  simp [hds]
  exact .refl _
 | true =>
  have hl : l = true := by
   cases l with
   | true => rfl
   | false => rw [Bool.and_false] at hzl; rw [← hzl, Bool.false_and] at hzd; rw [← hzd, Bool.false_and] at hze; cases hze
  obtain ⟨v, st2, hc, rfl, hk⟩ := hca hl
  have hsp : (V.str specialS) = .str (S.ofList [47, 0, 10]) := rfl
  rw [hsp] at hc
  simp [h18, h0, hg, J6 hk65, hc]
  refine Does.ret ?_
  simp [hds]
  exact hk
set_option maxRecDepth 100000 in
theorem JoD (gl : Gl) (st : St) (s : S) :
  ∃ v st', W Tryz.prog (.call gl 44 [.str s]) st = .call (.val v st') ∧ v = .bool (Jbt s) ∧ Keep st st' := by
 have hemp := Jaj s
 have ls := Jar Tryz.underlying9 (s := s)
 have e64 : ∀ kk, Jn Tryz.prog kk .gtr 3 (.int .i64 (s.n : Int)) (.int .i64 64) = some (.bool (!decide (s.n ≤ 64))) := fun kk => by
  have := Jgg (P := Tryz.prog) (kk := kk) (T := 3) (q := .i64) (c := s.n) (m := 64) (k := 64) rfl
  rw [this]
  congr 2
  by_cases h : s.n ≤ 64
  ·rw [decide_eq_true h, decide_eq_false (by omega)]; rfl
  ·rw [decide_eq_false h, decide_eq_true (by omega)]; rfl
 unfold Jbt
 refine Jcf (NY.no _ rfl rfl rfl _ _) Tryz.func44 rfl (by kernel_rfl) ?_
 repeat refine Does.seq ?_
 refine Does.region ?_
 simp
 repeat refine Does.seq ?_
 refine Does.region ?_
 generalize decide (s.n = 0) = z at hemp
 generalize hl64 : decide (s.n ≤ 64) = l at e64
 generalize hd1 : s.same (S.ofList [46]) = d1
 generalize hd2 : s.same (S.ofList [46, 46]) = d2
 generalize han : JaK s.toList = an
 refine Oks.cut 8 (NmF gl s st 11 (!(!z && l))) ?c1 ?c2
 case c1 => as_aux_lemma =>
  simp only [List.take]
  cases z with
  | true =>
   simp [Jt, hemp]
   exact ⟨rfl, by simp, by simp, by simp, by simp⟩
  | false =>
   simp [Jt, hemp, ls, e64]
   exact ⟨rfl, by simp, by simp, by simp, by simp⟩
 case c2 => as_aux_lemma =>
 rintro fr st' ⟨hst', hds, hg, h0, h10⟩
 rw [show st' = st from hst']
 clear hst'
 simp only [List.drop]
 generalize hzl : (!z && l) = zl at h10
 refine Oks.cut 4 (NmF gl s st 15 (!(zl && !d1))) ?c3 ?c4
 case c3 => as_aux_lemma =>
  simp only [List.take]
  cases zl with
  | false =>
   simp [h10]
   exact ⟨rfl, by simp [hds], by simp [hg], by simp [h0], by simp⟩
  | true =>
   simp [h10, h0, Jt, hd1]
   exact ⟨rfl, by simp [hds], by simp [hg], by simp [h0], by simp⟩
 case c4 => as_aux_lemma =>
 clear hds hg h0 h10
 rintro fr st' ⟨hst', hds, hg, h0, h14⟩
 rw [show st' = st from hst']
 clear hst'
 simp only [List.drop]
 generalize hzd : (zl && !d1) = zd at h14
 refine Oks.cont (Q := NmF gl s st 18 (!(zd && !d2))) ?c5 ?c6
 case c5 => as_aux_lemma =>
  cases zd with
  | false =>
   simp [h14]
   exact ⟨rfl, by simp [hds], by simp [hg], by simp [h0], by simp⟩
  | true =>
   simp [h14, h0, Jt, hd2]
   exact ⟨rfl, by simp [hds], by simp [hg], by simp [h0], by simp⟩
 case c6 => as_aux_lemma =>
 clear hds hg h0 h14
 rintro fr st' ⟨hst', hds, hg, h0, h18⟩
 rw [show st' = st from hst']
 clear hst'
 simp only [andThen]
 repeat refine Does.seq ?_
 generalize hze : (zd && !d2) = ze at h18
 cases ze with
 | false =>
  refine Does.condT (by simp [h18]) ?_
  repeat refine Does.seq ?_
  refine Does.region ?_
  simp
  refine Does.ret ?_
  simp [hds]
  exact .refl _
 | true =>
 refine Does.condF (by simp [h18]) ?_
 refine Does.skip ?_
 simp only [andThen, Bool.true_and]
 have hn64 : s.n ≤ 64 := by
  refine of_decide_eq_true (hl64.trans ?_)
  cases l with
  | true => rfl
  | false => rw [Bool.and_false] at hzl; rw [← hzl, Bool.false_and] at hzd; rw [← hzd, Bool.false_and] at hze; cases hze
 repeat refine Does.seq ?_
 refine Does.region ?_
 simp
 repeat refine Does.seq ?_
 refine Does.mono (Q := NmQ st an) ?loop ?tail
 case tail => as_aux_lemma =>
  rintro e fr' st' ⟨hst', hds, ⟨rfl, h2, hc⟩ | ⟨rfl, hc⟩⟩
  ·simp only [andThen]
   rw [show st' = st from hst']
   simp [hds, h2, hc]
   exact .refl _
  ·simp only [andThen]
   rw [show st' = st from hst']
   repeat refine Does.seq ?_
   refine Does.region ?_
   simp
   refine Does.ret ?_
   simp [hds, hc]
   exact .refl _
 case loop => as_aux_lemma =>
  refine Does.block (Does.up s.n (fun i fr st' => Jnm st st' ∧ fr.ds = [] ∧ Fr.at fr 0 = .str s ∧ Fr.at fr 3 = .int .i64 (i : Int) ∧ i ≤ s.n ∧ Jey s i) 0 ?init ?QD ?step)
  case init => exact ⟨rfl, by simp [hds], by simp [h0], by simp, Nat.zero_le _, rfl⟩
  case QD => exact fun i fr st' h => h.2.2.2.2.1
  case step =>
   clear hds hg h0 h18
   rintro i fr st' ⟨hst', hds, h0, h3, hi, hno⟩
   rw [show st' = st from hst']
   clear hst'
   have elen : ∀ kk, Jn Tryz.prog kk .lss 3 (.int .i64 (i : Int)) (.int .i64 (s.n : Int)) = some (.bool (decide (i < s.n))) := fun kk => JdM rfl
   repeat refine Does.seq ?_
   refine Does.region ?_
   by_cases hlt : i < s.n
   rotate_left
   ·rw [decide_eq_false hlt] at elen
    simp [h0, h3, ls, elen]
    repeat refine Does.seq ?_
    refine Does.condF (by simp) ?_
    refine Does.exit ?_
    simp only [inBlock, if_true, andThen]
    exact ⟨rfl, by simp [hds], .inr ⟨rfl, by rw [← han]; exact JlD hno (by omega)⟩⟩
   ·rw [decide_eq_true hlt] at elen
    have hix := Qw (P := Tryz.prog) (k := .i64) Tryz.underlying9 (s := s) (i := i) hlt
    have hsp := JoB (s.at i) (s.at_lt i)
    have hstep := JkV hno hlt
    have hnot := fun h => Jjf hlt h
    have q0 : ∀ kk, Jn Tryz.prog kk .eql 5 (.int .u8 (s.at i : Int)) (.int .u8 0) = some (.bool (decide (s.at i = 0))) := fun kk => JdL rfl
    have q47 : ∀ kk, Jn Tryz.prog kk .eql 5 (.int .u8 (s.at i : Int)) (.int .u8 47) = some (.bool (decide (s.at i = 47))) := fun kk => JdL rfl
    have q10 : ∀ kk, Jn Tryz.prog kk .eql 5 (.int .u8 (s.at i : Int)) (.int .u8 10) = some (.bool (decide (s.at i = 10))) := fun kk => JdL rfl
    rw [hsp] at hstep hnot
    clear hsp
    generalize decide (s.at i = 0) = b0 at q0 hstep hnot
    generalize decide (s.at i = 47) = b47 at q47 hstep hnot
    generalize decide (s.at i = 10) = b10 at q10 hstep hnot
    generalize (s.at i : Int) = ci at hix q0 q47 q10
    have w1 : IntKind.i64.wrap ((i : Int) + 1) = (i : Int) + 1 := Jr (by omega) (by omega)
    simp [h0, h3, ls, elen]
    repeat refine Does.seq ?_
    refine Does.condT (by simp) ?_
    refine Does.skip ?_
    simp
    repeat refine Does.seq ?_
    refine Does.block ?_
    repeat refine Does.seq ?_
    refine Does.region ?_
    refine Oks.cont (Q := fun fr st' => Jnm st st' ∧ fr.ds = [] ∧ Fr.at fr 0 = .str s ∧ Fr.at fr 3 = .int .i64 (i : Int) ∧ Fr.at fr 40 = .bool (b47 || (b0 || b10))) ?r6 ?t6
    case r6 => as_aux_lemma =>
     cases b0 with
     | true =>
      simp [h0, h3, hix, q0]
      exact ⟨rfl, by simp [hds]⟩
     | false =>
      cases b47 with
      | true =>
       simp [h0, h3, hix, q0, q47]
       exact ⟨rfl, by simp [hds]⟩
      | false =>
       simp [h0, h3, hix, q0, q47, q10]
       exact ⟨rfl, by simp [hds]⟩
    case t6 => as_aux_lemma =>
    clear hds h0 h3
    rintro fr st' ⟨hst', hds, h0, h3, h40⟩
    rw [show st' = st from hst']
    clear hst'
    simp only [andThen]
    repeat refine Does.seq ?_
    generalize (b47 || (b0 || b10)) = bb at h40 hstep hnot
    cases bb with
    | true =>
     refine Does.condT (by simp [h40]) ?_
     repeat refine Does.seq ?_
     refine Does.region ?_
     simp
     refine Does.ret ?_
     simp only [andThen, inBlock]
     exact ⟨rfl, by simp [hds], .inl ⟨rfl, by simp, by rw [← han]; exact hnot rfl⟩⟩
    | false =>
     refine Does.condF (by simp [h40]) ?_
     refine Does.skip ?_
     simp only [andThen, inBlock]
     refine Does.region ?_
     simp [h3, Jz, w1]
     exact ⟨i + 1, by omega, rfl, by simp [hds], by simp [h0], by simp, by omega, hstep rfl⟩
end Go.Vm
