/- Contracts of functions on bytes, at the seat of patterns: IndexByte, IndexAny of the bytes that no name holds, path.Name. -/
import Derived.Test.YtphinjijaglokaaGreatDoorSz0
import Derived.Test.YtphinjijaglokaaGreatDoorChecked
namespace Go.Pa
def specials : List UInt8 := [47, 0, 10]
end Go.Pa
namespace Go.Vm
open Go Go.Proofs Go.Pa
attribute [local simp] Oks J1 Jg Jh vop Ji Jp ev evs toV andThen inBlock Jf Fr.dsTo Fr.glTo Fr.toNone Jc Jd Je JZ Jb Jr Jj V.undef JG Qf Qw
class NY [Memo] : Prop where
 no : ∀ f, Nat.beq f 84 = false → Nat.beq f 82 = false → (Nat.beq f 7 || Nat.beq f 77 || Nat.beq f 23 || Nat.beq f 45) = false → ∀ args st, (Memo.look f).run args st = none
theorem Jkh (s : S) {i : Nat} (h : i < s.n) : ((⟨⟨s.toList⟩⟩ : ByteArray).get! i).toNat = s.at i := by
 have h1 := s.toList_at h
 have h2 : i < s.toList.length := by rw [S.len]; exact h
 rw [List.getElem?_eq_getElem h2] at h1
 have h3 := Option.some.inj h1
 have h4 : (⟨⟨s.toList⟩⟩ : ByteArray).get! i = s.toList[i] := by
  show (⟨s.toList⟩ : Array UInt8)[i]! = _
  simp [List.getElem?_eq_getElem h2]
 rw [h4, h3]
 have := s.at_lt i
 simp; omega
theorem Jgm (s : S) {i : Nat} (h : i < s.n) : (s.at i < 128 → Utf8.decode ⟨⟨s.toList⟩⟩ i = (s.at i, 1)) ∧ (128 ≤ s.at i → 128 ≤ (Utf8.decode ⟨⟨s.toList⟩⟩ i).1 ∧
  ((Utf8.decode ⟨⟨s.toList⟩⟩ i).1 = 65533 ∨ Utf8.valid ((Utf8.decode ⟨⟨s.toList⟩⟩ i).1 : Int) = true) ∧ 1 ≤ (Utf8.decode ⟨⟨s.toList⟩⟩ i).2 ∧ i + (Utf8.decode ⟨⟨s.toList⟩⟩ i).2 ≤ s.n ∧
  ∀ j, i ≤ j → j < i + (Utf8.decode ⟨⟨s.toList⟩⟩ i).2 → 128 ≤ s.at j) := by
 have hsz : (⟨⟨s.toList⟩⟩ : ByteArray).size = s.n := s.len
 have g0 := Jkh s h
 have gk : ∀ k, i + k < s.n → ((⟨⟨s.toList⟩⟩ : ByteArray).get! (i + k)).toNat = s.at (i + k) := fun k hk => Jkh s hk
 unfold Utf8.decode
 simp only [Nat.add_zero, g0, hsz]
 by_cases h0 : s.at i < 128
 ·rw [if_pos h0]
  exact ⟨fun _ => rfl, fun h => by omega⟩
 ·rw [if_neg h0]
  refine ⟨fun h => by omega, fun _ => ?_⟩
  have one : 128 ≤ (Utf8.runeError, 1).1 ∧ ((Utf8.runeError, 1).1 = 65533 ∨ Utf8.valid (((Utf8.runeError, 1).1 : Nat) : Int) = true) ∧ 1 ≤ (Utf8.runeError, 1).2 ∧ i + (Utf8.runeError, 1).2 ≤ s.n ∧ ∀ j, i ≤ j → j < i + (Utf8.runeError, 1).2 → 128 ≤ s.at j := by
   refine ⟨by decide, .inl rfl, Nat.le_refl _, h, fun j h1 h2 => ?_⟩
   obtain rfl : j = i := by simp at h2; omega
   omega
  have cont : ∀ k, (decide (i + k < s.n) && ((⟨⟨s.toList⟩⟩ : ByteArray).get! (i + k)).toNat / 64 == 2) = true → i + k < s.n ∧ 128 ≤ s.at (i + k) := fun k hk => by
   simp only [Bool.and_eq_true, decide_eq_true_eq, beq_iff_eq] at hk
   rw [gk k hk.1] at hk
   exact ⟨hk.1, by omega⟩
  have hv : ∀ c : Nat, 128 ≤ c → c < 2048 → Utf8.valid (c : Int) = true := fun c h1 h2 => by
   simp only [Utf8.valid, Bool.or_eq_true, Bool.and_eq_true, decide_eq_true_eq]
   left; omega
  split
  ·rename_i hc
   simp only [Bool.and_eq_true] at hc
   obtain ⟨c1, c2⟩ := cont 1 (by simpa using hc.2)
   split
   ·rename_i hge
    refine ⟨hge, .inr (hv _ hge (by omega)), by show 1 ≤ 2; decide, by show i + 2 ≤ s.n; omega, fun j h1 h2 => ?_⟩
    have : j = i ∨ j = i + 1 := by simp at h2; omega
    rcases this with rfl | rfl <;> omega
   ·exact one
  ·split
   ·rename_i hc
    simp only [Bool.and_eq_true] at hc
    obtain ⟨c1, c2⟩ := cont 1 (by simpa using hc.1.2)
    obtain ⟨c3, c4⟩ := cont 2 (by simpa using hc.2)
    split
    ·rename_i hge
     simp only [Bool.and_eq_true, decide_eq_true_eq] at hge
     refine ⟨by have := hge.1; show 128 ≤ _; omega, .inr hge.2, by show 1 ≤ 3; decide, by show i + 3 ≤ s.n; omega, fun j h1 h2 => ?_⟩
     have : j = i ∨ j = i + 1 ∨ j = i + 2 := by simp at h2; omega
     rcases this with rfl | rfl | rfl <;> omega
    ·exact one
   ·split
    ·rename_i hc
     simp only [Bool.and_eq_true] at hc
     obtain ⟨c1, c2⟩ := cont 1 (by simpa using hc.1.1.2)
     obtain ⟨c3, c4⟩ := cont 2 (by simpa using hc.1.2)
     obtain ⟨c5, c6⟩ := cont 3 (by simpa using hc.2)
     split
     ·rename_i hge
      simp only [Bool.and_eq_true, decide_eq_true_eq] at hge
      refine ⟨by have := hge.1; show 128 ≤ _; omega, .inr hge.2, by show 1 ≤ 4; decide, by show i + 4 ≤ s.n; omega, fun j h1 h2 => ?_⟩
      have : j = i ∨ j = i + 1 ∨ j = i + 2 ∨ j = i + 3 := by simp at h2; omega
      rcases this with rfl | rfl | rfl | rfl <;> omega
     ·exact one
    ·exact one
theorem JhZ {c : Nat} (hv : Utf8.valid (c : Int) = true) (h : ¬ c < 0x80) (h2 : c < 0x800) : (Utf8.encode (c : Int)).data.toList = [UInt8.ofNat (0xC0 + c / 64), UInt8.ofNat (0x80 + c % 64)] := by
 unfold Utf8.encode
 simp only [hv, if_true, Int.toNat_natCast, h, h2, if_false]
theorem Jgn {c : Nat} (hv : Utf8.valid (c : Int) = true) (h : ¬ c < 0x80) (h2 : ¬ c < 0x800) (h3 : c < 0x10000) : (Utf8.encode (c : Int)).data.toList = [UInt8.ofNat (0xE0 + c / 4096), UInt8.ofNat (0x80 + c / 64 % 64), UInt8.ofNat (0x80 + c % 64)] := by
 unfold Utf8.encode
 simp only [hv, if_true, Int.toNat_natCast, h, h2, h3, if_false]
theorem JgY {c : Nat} (hv : Utf8.valid (c : Int) = true) (h : ¬ c < 0x80) (h2 : ¬ c < 0x800) (h3 : ¬ c < 0x10000) : (Utf8.encode (c : Int)).data.toList = [UInt8.ofNat (0xF0 + c / 262144), UInt8.ofNat (0x80 + c / 4096 % 64), UInt8.ofNat (0x80 + c / 64 % 64), UInt8.ofNat (0x80 + c % 64)] := by
 unfold Utf8.encode
 simp only [hv, if_true, Int.toNat_natCast, h, h2, h3, if_false]
theorem Jgo {n : Nat} (h1 : 128 ≤ n) (h2 : n < 256) : 128 ≤ (UInt8.ofNat n).toNat := by simp; omega
theorem Jgp {c : Nat} (h : 128 ≤ c) (hv : Utf8.valid (c : Int) = true) : 2 ≤ (Utf8.encode (c : Int)).data.toList.length ∧ (Utf8.encode (c : Int)).data.toList.length ≤ 4 ∧ ∀ b ∈ (Utf8.encode (c : Int)).data.toList, 128 ≤ b.toNat := by
 have hmax : c < 1114112 := by
  simp only [Utf8.valid, Bool.or_eq_true, Bool.and_eq_true, decide_eq_true_eq] at hv
  omega
 have hn : ¬ c < 0x80 := by omega
 by_cases h2 : c < 0x800
 ·rw [JhZ hv hn h2]
  refine ⟨by simp, by simp, fun b hb => ?_⟩
  simp only [List.mem_cons, List.not_mem_nil, or_false] at hb
  rcases hb with rfl | rfl <;> exact Jgo (by omega) (by omega)
 ·by_cases h3 : c < 0x10000
  ·rw [Jgn hv hn h2 h3]
   refine ⟨by simp, by simp, fun b hb => ?_⟩
   simp only [List.mem_cons, List.not_mem_nil, or_false] at hb
   rcases hb with rfl | rfl | rfl <;> exact Jgo (by omega) (by omega)
  ·rw [JgY hv hn h2 h3]
   refine ⟨by simp, by simp, fun b hb => ?_⟩
   simp only [List.mem_cons, List.not_mem_nil, or_false] at hb
   rcases hb with rfl | rfl | rfl | rfl <;> exact Jgo (by omega) (by omega)
set_option maxRecDepth 100000 in
theorem Jh0 {st : St} {c : Int} : QI Tryz.prog st 21 9 (.int .i32 c) = some (.str (S.ofList (Utf8.encode c).data.toList)) := by
 have h : QI Tryz.prog st 21 9 (.int .i32 c) = Qv Tryz.prog (fun l => convert 21 9 (l.getD 0 undef)) [.int .i32 c] := by
  simp only [QI, Tryz.underlying21, Tryz.underlying9]
 rw [h]
 simp only [Qv, Jb, ofV]
 have h2 : Qy Tryz.prog (convert 21 9 (.int .i32 c)) = some (.string (Utf8.encode c)) := by
  simp only [convert, Q4, Qz Tryz.underlying21, Qz Tryz.underlying9, Option.bind_some]
  rfl
 show (match Qy Tryz.prog (convert 21 9 (.int .i32 c)) with
  | some v => toV 6 v
  | none => none) = _
 rw [h2]
 rfl
set_option maxRecDepth 100000 in
theorem Jh1 {st : St} {c : Nat} (hc : c < 128) : QI Tryz.prog st 21 5 (.int .i32 (c : Int)) = some (.int .u8 (c : Int)) := by
 have h : QI Tryz.prog st 21 5 (.int .i32 (c : Int)) = Qv Tryz.prog (fun l => convert 21 5 (l.getD 0 undef)) [.int .i32 (c : Int)] := by
  simp only [QI, Tryz.underlying21, Tryz.underlying5]
 rw [h]
 simp only [Qv, Jb, ofV]
 have h2 : Qy Tryz.prog (convert 21 5 (.int .i32 (c : Int))) = some (.int .u8 (IntKind.u8.wrap (c : Int))) := by
  simp only [convert, Q4, Qz Tryz.underlying21, Qz Tryz.underlying5, Option.bind_some]
  rfl
 have h3 : IntKind.u8.wrap (c : Int) = (c : Int) := by
  simp [IntKind.wrap, IntKind.bits, IntKind.signed]
  omega
 show (match Qy Tryz.prog (convert 21 5 (.int .i32 (c : Int))) with
  | some v => toV 6 v
  | none => none) = _
 rw [h2, h3]
 rfl
def specialS : S := S.ofList [47, 0, 10]
theorem JaS : specialS.toList = specials := S.toList_ofList _
theorem Jce : ∀ b ∈ specials, b.toNat < 128 := by decide
def Jmg (c : Nat) (st : St) (v : V) (st' : St) : Prop := ∃ w : Int, v = .int .i64 w ∧ (0 ≤ w ↔ c < 128 ∧ UInt8.ofNat c ∈ specials) ∧ Keep st st'
variable [Memo] [NY]
theorem Jez (gl : Gl) (st : St) (s : S) (c : Nat) :
  W Tryz.prog (.call gl 58 [.str s, .int .u8 (c : Int)]) st = .call (.val (.int .i64 (Lib.indexByte s.toList c.toUInt8)) st) := by
 have hx : QT Tryz.prog Tryz.f69 [.str s, .int .u8 (c : Int)] = some (.int .i64 (Lib.indexByte s.toList c.toUInt8)) := Jfy (by kernel_rfl) (by kernel_rfl) s c
 have hb : Tryz.f69.body = none := rfl
 have hm : (Tryz.f69.name == "runtime.NumGoroutine") = false := by kernel_rfl
 refine JbJ (NY.no _ rfl rfl rfl _ _) Tryz.func58 rfl (by kernel_rfl) ?_
 repeat refine Does.seq ?_
 refine Does.region ?_
 simp
 repeat refine Does.seq ?_
 refine Does.region ?_
 simp [Jde Tryz.func69 hm hb hx]
 refine Does.ret ?_
 simp []
theorem JbV (gl : Gl) (st : St) (s : S) (c : Nat) :
  W Tryz.prog (.call gl 34 [.str s, .int .u8 (c : Int)]) st = .call (.val (.int .i64 (Lib.indexByte s.toList c.toUInt8)) st) := by
 have hc := QB (Jez gl st s c)
 have hk : Qa Tryz.prog 58 = true := by kernel_rfl
 refine JbJ (NY.no _ rfl rfl rfl _ _) Tryz.func34 rfl (by kernel_rfl) ?_
 repeat refine Does.seq ?_
 refine Does.region ?_
 simp
 repeat refine Does.seq ?_
 refine Does.region ?_
 simp [JY hk, hc]
 refine Does.ret ?_
 simp []
theorem Jki (gl : Gl) (st : St) (c : Nat) (hv : Utf8.valid (c : Int) = true) : W Tryz.prog (.call gl 104 [.int .i32 (c : Int)]) st = .call (.val (.bool true) st) := by
 simp only [Utf8.valid, Bool.or_eq_true, Bool.and_eq_true, decide_eq_true_eq] at hv
 refine JbJ (NY.no _ rfl rfl rfl _ _) Tryz.func104 rfl (by kernel_rfl) ?_
 repeat refine Does.seq ?_
 refine Does.region ?_
 simp
 repeat refine Does.seq ?_
 refine Does.block ?_
 repeat refine Does.seq ?_
 refine Does.region ?_
 by_cases h1 : (c : Int) < 55296
 ·simp [Jbm, JaX, h1]
  repeat refine Does.seq ?_
  refine Does.condT (by simp) ?_
  repeat refine Does.seq ?_
  refine Does.region ?_
  simp
  refine Does.ret ?_
  simp []
 ·have h2 : (57343 : Int) < (c : Int) := by omega
  have h3 : (c : Int) ≤ 1114111 := by omega
  simp [Jbm, JaX, h1]
  repeat refine Does.seq ?_
  refine Does.condF (by simp) ?_
  repeat refine Does.seq ?_
  refine Does.region ?_
  simp [Jbm, JaX, h2, h3]
  repeat refine Does.seq ?_
  refine Does.condT (by simp) ?_
  repeat refine Does.seq ?_
  refine Does.region ?_
  simp
  refine Does.ret ?_
  simp []
set_option maxRecDepth 100000 in
theorem Jgq (gl : Gl) (hbad : ∀ st, ihCall (W Tryz.prog) gl (.f 82) [.str specialS, .int .i32 65533] st = .val (.int .i64 (-1)) st) (st : St) (c : Nat) (hc : c < 128 ∨ c = 65533 ∨ (128 ≤ c ∧ Utf8.valid (c : Int) = true)) (hno : ∀ args st, c ≠ 65533 → args = [V.str specialS, .int .i32 (c : Int)] → (Memo.look 82).run args st = none) :
  ∃ v st', ihCall (W Tryz.prog) gl (.f 82) [.str specialS, .int .i32 (c : Int)] st = .val v st' ∧ Jmg c st v st' := by
 by_cases hcb : c = 65533
 ·subst hcb
  have hcast : (((65533 : Nat)) : Int) = 65533 := by omega
  rw [hcast]
  exact ⟨_, _, hbad st, -1, rfl, ⟨fun h => by omega, fun h => by omega⟩, .refl st⟩
 have hk68 : Qa Tryz.prog 34 = true := by kernel_rfl
 have hk69 : Qa Tryz.prog 104 = true := by kernel_rfl
 have main : ∃ v st', W Tryz.prog (.call gl 82 [.str specialS, .int .i32 (c : Int)]) st = .call (.val v st') ∧ Jmg c st v st' := by
  refine Jda (hno _ _ hcb rfl) Tryz.func82 rfl (by kernel_rfl) ?_
  repeat refine Does.seq ?_
  refine Does.region ?_
  simp
  repeat refine Does.seq ?_
  refine Does.block ?_
  repeat refine Does.seq ?_
  refine Does.region ?_
  have e1 : ∀ kk, Jv Tryz.prog kk .lss 21 (.int .i32 (c : Int)) (.int .i32 128) = some (.bool (decide (c < 128))) := fun kk => Je7 rfl
  have e0 : ∀ kk, Jv Tryz.prog kk .leq 21 (.int .i32 0) (.int .i32 (c : Int)) = some (.bool true) := fun kk => by rw [Jbm]; simp
  by_cases h1 : c < 128
  ·rw [decide_eq_true h1] at e1
   have hcall := QB (JbV gl st specialS c)
   have hge := Jb3 specialS.toList c.toUInt8
   rw [JaS] at hge
   have hcc : c.toUInt8 = UInt8.ofNat c := rfl
   generalize hw : Lib.indexByte specialS.toList c.toUInt8 = w at hcall
   rw [JaS] at hw
   rw [hw] at hge
   have hcv := Jh1 (st := st) h1
   simp [e0, e1]
   repeat refine Does.seq ?_
   refine Does.condT (by simp) ?_
   repeat refine Does.seq ?_
   refine Does.region ?_
   simp [Tryz.underlying21, Tryz.underlying5, hcv, JY hk68, hcall]
   refine Does.ret ?_
   simp
   exact ⟨w, rfl, by rw [hge, hcc]; exact ⟨fun h => ⟨h1, h⟩, fun h => h.2⟩, .refl st⟩
  ·rw [decide_eq_false h1] at e1
   obtain ⟨h128, hv⟩ : 128 ≤ c ∧ Utf8.valid (c : Int) = true := (hc.resolve_left h1).resolve_left hcb
   have e2 : ∀ kk, Jv Tryz.prog kk .eql 21 (.int .i32 (c : Int)) (.int .i32 65533) = some (.bool false) := fun kk => (JiD (m := 65533) (by omega)).trans (by rw [decide_eq_false hcb])
   have hvc := QB (Jki gl st c hv)
   simp [e0, e1]
   repeat refine Does.seq ?_
   refine Does.condF (by simp) ?_
   repeat refine Does.seq ?_
   refine Does.region ?_
   simp [e2]
   repeat refine Does.seq ?_
   refine Does.condF (by simp) ?_
   repeat refine Does.seq ?_
   refine Does.region ?_
   simp [JY hk69, hvc]
   repeat refine Does.seq ?_
   refine Does.condF (by simp) ?_
   refine Does.scope ?_
   repeat refine Does.seq ?_
   refine Does.region ?_
   obtain ⟨l2, l4, hbs⟩ := Jgp h128 hv
   have hcv := Jh0 (st := st) (c := (c : Int))
   have hrl : (S.ofList (Utf8.encode (c : Int)).data.toList).toList = (Utf8.encode (c : Int)).data.toList := S.toList_ofList _
   generalize (Utf8.encode (c : Int)).data.toList = rl at hcv l2 l4 hbs hrl
   have hrn : (S.ofList rl).n = rl.length := rfl
   generalize S.ofList rl = rs at hcv hrl hrn
   have hlr := Jap Tryz.underlying9 (s := rs)
   have hlS := Jap Tryz.underlying9 (s := specialS)
   have hnS : specialS.n = 3 := rfl
   rw [hnS] at hlS
   simp [Tryz.underlying21, Tryz.underlying9, hcv]
   as_aux_lemma =>
   repeat refine Does.seq ?_
   refine Does.region ?_
   obtain ⟨la, hla⟩ : ∃ la, rs.n = la + 1 := ⟨rs.n - 1, by omega⟩
   rw [hla] at hlr
   have w1 : IntKind.i64.wrap (la : Int) = (la : Int) := Jn (by omega) (by omega)
   simp [hlr, Jt, w1]
   repeat refine Does.seq ?_
   refine Does.region ?_
   simp
   repeat refine Does.seq ?_
   refine Does.region ?_
   simp
   repeat refine Does.seq ?_
   refine Does.block (Does.loop ?_)
   repeat refine Does.seq ?_
   refine Does.region ?_
   have e3 : ∀ kk, Jv Tryz.prog kk .lss 3 (.int .i64 (la : Int)) (.int .i64 3) = some (.bool (decide (la < 3))) := fun kk => Je7 rfl
   by_cases hla3 : la < 3
   rotate_left
   ·rw [decide_eq_false hla3] at e3
    simp [hlS, e3]
    repeat refine Does.seq ?_
    refine Does.condF (by simp) ?_
    refine Does.exit ?_
    simp only [inBlock, if_true, andThen]
    repeat refine Does.seq ?_
    refine Does.region ?_
    simp
    refine Does.ret ?_
    simp
    exact ⟨-1, rfl, by omega, .refl st⟩
   rw [decide_eq_true hla3] at e3
   simp [hlS, e3]
   repeat refine Does.seq ?_
   refine Does.condT (by simp) ?_
   refine Does.skip ?_
   simp
   refine Does.block ?_
   refine Does.scope ?_
   repeat refine Does.seq ?_
   refine Does.draw (b := [0, 0, 3, 0, 0, 24, 63]) (l := [0, 1, 2, 3, 4, 5, 6]) (by kernel_rfl) (by kernel_rfl) (by kernel_rfl) ?_
   have i1 := QX (P := Tryz.prog) (k := .i64) Tryz.underlying9 (s := specialS) (i := la) (by rw [hnS]; omega)
   have i2 := QX (P := Tryz.prog) (k := .i64) Tryz.underlying9 (s := rs) (i := la) (by omega)
   have hb1 : specialS.at la < 128 := by
    have := Jce _ (JaS ▸ List.mem_of_getElem? (specialS.toList_at (i := la) (by rw [hnS]; omega)))
    have h2 := specialS.at_lt la
    simp at this; omega
   have hb2 : 128 ≤ rs.at la := by
    have := hbs _ (hrl ▸ List.mem_of_getElem? (rs.toList_at (i := la) (by omega)))
    have h2 := rs.at_lt la
    simp at this; omega
   have e4 : ∀ kk, Jv Tryz.prog kk .neq 5 (.int .u8 (specialS.at la : Int)) (.int .u8 (rs.at la : Int)) = some (.bool true) := fun kk => (JiE rfl).trans (by rw [decide_eq_false (by omega)]; rfl)
   simp [i1, i2, e4]
   repeat refine Does.seq ?_
   refine Does.condT (by simp) ?_
   repeat refine Does.seq ?_
   refine Does.draw (b := [0, 0, 2, 7, 0, 0, 48, 127, 255]) (l := [0, 1, 2, 3, 4, 5, 6, 7, 8]) (by kernel_rfl) (by kernel_rfl) (by kernel_rfl) ?_
   have hsl := JdJ (P := Tryz.prog) Tryz.underlying9 (s := specialS) (lo := la + 1) (by rw [hnS]; omega) (k := .i64)
   have hw := JkR (n := la) (m := 1) (by omega)
   have hcall := QB (JbV gl { ctr := st.ctr + 7 + 9, box := st.box } (specialS.cut (la + 1) specialS.n) (rs.at la))
   have hnone : Lib.indexByte (specialS.cut (la + 1) specialS.n).toList (rs.at la).toUInt8 = -1 := by
    have hlt : ¬ 0 ≤ Lib.indexByte (specialS.cut (la + 1) specialS.n).toList (rs.at la).toUInt8 := by
     rw [Jb3, JhA _ (by rw [hnS]; omega), JaS]
     intro hm
     have := Jce _ (List.mem_of_mem_drop hm)
     have h2 := rs.at_lt la
     simp [Nat.toUInt8] at this; omega
    rw [Jbb] at hlt ⊢
    split at hlt
    ·omega
    ·rename_i h; rw [if_neg h]
   rw [hnone] at hcall
   simp at hsl hw
   generalize specialS.cut (la + 1) specialS.n = cu at hsl hcall
   simp [Js, hw, hsl, i2, JY hk68, hcall]
   repeat refine Does.seq ?_
   refine Does.region ?_
   simp [JaX]
   repeat refine Does.seq ?_
   refine Does.condT (by simp) ?_
   repeat refine Does.seq ?_
   refine Does.region ?_
   simp
   refine Does.ret ?_
   simp
   exact ⟨-1, rfl, by omega, ((Keep.refl st).tick 7).tick 9⟩
 obtain ⟨v, st', h, hr⟩ := main
 exact ⟨v, st', QB h, hr⟩
end Go.Vm
namespace Go.Vm
open Go Go.Proofs Go.Pa
theorem JcU (s : S) : s.same (S.ofList []) = decide (s.n = 0) := by
 rw [S.same_eq, S.toList_ofList, Bool.eq_iff_iff, beq_iff_eq, decide_eq_true_eq]
 constructor
 ·intro h; rw [← S.len, h]; rfl
 ·intro h; exact List.eq_nil_of_length_eq_zero (by rw [S.len, h])
attribute [local simp] Oks J1 Jg Jh vop Ji Jp ev evs toV andThen inBlock Jf Fr.dsTo Fr.glTo Fr.toNone Jc Jd Je JZ Jb Jr Jj V.undef JG Qf Qw
def asciiL : List V := (List.range 256).map fun i => .bool (specials.elem (UInt8.ofNat i))
theorem Jh2 : asciiL.length = 256 := by simp [asciiL]
theorem Jh3 {i : Nat} (h : i < 256) : asciiL[i]? = some (.bool (specials.elem (UInt8.ofNat i))) := by simp [asciiL, h]
theorem Jh4 : asciiL.all Qb = true := by simp [asciiL, Qb]
theorem Jmu : (match Q1 Tryz.prog 115 with
 | some (.agg z) => Nat.beq z.length 256 && z.all Qb
 | _ => false) = true := by kernel_rfl
theorem Jm5 : ∃ z, Q1 Tryz.prog 115 = some (.agg z) ∧ z.length = 256 ∧ z.all Qb = true := by
 have h := Jmu
 split at h
 ·rename_i z hz
  simp only [Bool.and_eq_true] at h
  exact ⟨z, hz, Nat.eq_of_beq_eq_true h.1, h.2⟩
 ·cases h
theorem Jm6 : J5 Tryz.prog 115 = some 256 := by kernel_rfl
theorem JfK {P : Program} {st : St} {t : TypeId} {id n : Nat} {cs l : List V} {e : TypeId} {fl : Bool} (hs : J5 P t = some n) (hb : st.box.get id = some (.cells cs e fl (some 0))) (hc : cs.length = n) (hl : l.length = n) (ho : l.all Qb = true) :
  Jak P st t (.ptr id 0) (.agg l) = some { st with box := st.box.put id (.cells l e fl (some 0)) } := by
 have e1 : Nat.beq l.length n = true := by rw [hl, Nat.beq_refl]
 have e2 : Nat.ble (0 + n) cs.length = true := Nat.ble_eq_true_of_le (by omega)
 have e3 : over cs 0 l = l := by simp [over, hl, hc]
 simp only [Jak, hs, hb, V.cells, e1, e2, ho, Jcr, Nat.ble, Bool.and_self, e3]
theorem JjD {P : Program} {st : St} {t : TypeId} {s : S} (hT : P.underlying t = some .string) : Jfh P st t (.str s) = some (.ptr st.ctr 0, { st with ctr := st.ctr + 1, box := st.box.put st.ctr (.iter s 0) }) := by
 simp only [Jfh, hT]
theorem Jh5 {st : St} {id pos : Nat} {s : S} (hb : st.box.get id = some (.iter s pos)) (h : pos < s.n) : Jfi st (.ptr id 0) true = some (.tup [.bool true, .int .i64 (pos : Int), .int .i32 ((Utf8.decode ⟨⟨s.toList⟩⟩ pos).1 : Int)], { st with box := st.box.put id (.iter s (pos + (Utf8.decode ⟨⟨s.toList⟩⟩ pos).2)) }) := by
 have : Nat.blt pos s.n = true := by rw [Jbx]; exact decide_eq_true h
 simp only [Jfi, hb, this]
 rfl
theorem Jh6 {st : St} {id pos : Nat} {s : S} (hb : st.box.get id = some (.iter s pos)) (h : ¬ pos < s.n) : Jfi st (.ptr id 0) true = some (.tup [.bool false], st) := by
 have : Nat.blt pos s.n = false := by rw [Jbx]; exact decide_eq_false h
 simp only [Jfi, hb, this]
def Q8 (l : List UInt8) : Bool := l.any fun b => specials.elem b
theorem JeA {s : S} {n : Nat} (hn : n < s.n) : Q8 (s.toList.take (n + 1)) = (Q8 (s.toList.take n) || specials.elem (UInt8.ofNat (s.at n))) := by
 unfold Q8
 rw [List.take_add_one, s.toList_at hn, List.any_append]
 simp
theorem Jkj {s : S} {n : Nat} (hn : n < s.n) (h : specials.elem (UInt8.ofNat (s.at n)) = true) : Q8 s.toList = true := by
 unfold Q8
 rw [List.any_eq_true]
 exact ⟨_, List.mem_of_getElem? (s.toList_at hn), h⟩
theorem JgZ {s : S} {n : Nat} : ∀ m, n + m ≤ s.n → (∀ j, n ≤ j → j < n + m → 128 ≤ s.at j) → Q8 (s.toList.take n) = false → Q8 (s.toList.take (n + m)) = false
 | 0, _, _, h => h
 | m + 1, hm, hj, h => by
  have ih := JgZ m (by omega) (fun j h1 h2 => hj j h1 (by omega)) h
  rw [← Nat.add_assoc, JeA (by omega), ih, Bool.false_or]
  cases he : specials.elem (UInt8.ofNat (s.at (n + m))) with
  | false => rfl
  | true =>
   have h1 := Jce _ (by simpa using he)
   have h2 := s.at_lt (n + m)
   have h3 := hj (n + m) (by omega) (by omega)
   simp at h1; omega
def Jnx (s : S) (st : St) (v : V) (st' : St) : Prop := ∃ w : Int, v = .int .i64 w ∧ decide (0 ≤ w) = Q8 s.toList ∧ Keep st st'
def Jny (gl : Gl) (s : S) (st : St) (e : AE) (fr' : Fr) (st' : St) : Prop := Keep st st' ∧ fr'.ds = [] ∧ ((e = AE.ret ∧ ∃ w : Int, Fr.at fr' 4 = .int .i64 w ∧ decide (0 ≤ w) = Q8 s.toList) ∨ (e = AE.normal ∧ fr'.gl = gl ∧ Fr.at fr' 0 = .str s ∧ Fr.at fr' 1 = .str specialS))
structure Hits [Memo] (gl : Gl) (aL : List V) : Prop where
 len : aL.length = 256
 get : ∀ i, i < 256 → aL[i]? = some (.bool (specials.elem (UInt8.ofNat i)))
 one : aL.all Qb = true
 set : ∀ st, ihCall (W Tryz.prog) gl (.f 84) [.str specialS] st = .val (.tup [.agg aL, .bool true]) st
 bad : ∀ st, ihCall (W Tryz.prog) gl (.f 82) [.str specialS, .int .i32 65533] st = .val (.int .i64 (-1)) st
 no : ∀ (c : Nat) st, c ≠ 65533 → (Memo.look 82).run [V.str specialS, .int .i32 (c : Int)] st = none
variable [Memo] [NY]
theorem Jg0 (gl : Gl) (st : St) (id : Nat) (e : TypeId) (fl : Bool) {aL : List V} (hget : ∀ i, i < 256 → aL[i]? = some (.bool (specials.elem (UInt8.ofNat i)))) (hb : st.box.get id = some (.cells aL e fl (some 0))) (c : Nat) (hc : c < 256) :
  W Tryz.prog (.call gl 85 [.ptr id 0, .int .u8 (c : Int)]) st = .call (.val (.bool (specials.elem (UInt8.ofNat c))) st) := by
 have z4 : J5 Tryz.prog 4 = some 1 := by kernel_rfl
 have a4 : QM Tryz.prog 4 = some false := by kernel_rfl
 have hblt : Nat.blt c 256 = true := by rw [Jbx]; exact decide_eq_true hc
 have hia : Jm Tryz.prog 115 (.ptr id 0) (.int .u8 (c : Int)) = some (.ptr id c) := by
  simp only [Jm, Tryz.underlying115, QJ, z4, hblt, Nat.mul_one, Nat.zero_add]
 have hl := J9 (P := Tryz.prog) (off := c) a4 z4 hb (hget c hc)
 generalize specials.elem (UInt8.ofNat c) = b at hl
 refine JbJ (NY.no _ rfl rfl rfl _ _) Tryz.func85 rfl (by kernel_rfl) ?_
 repeat refine Does.seq ?_
 refine Does.region ?_
 simp
 repeat refine Does.seq ?_
 refine Does.region ?_
 simp [hia, hl]
 refine Does.ret ?_
 simp []
theorem JjE (gl : Gl) (st : St) (n : Nat) : W Tryz.prog (.call gl 83 [.int .i64 (n : Int)]) st = .call (.val (.bool (decide (8 < n))) st) := by
 have e1 : ∀ kk, Jv Tryz.prog kk .gtr 3 (.int .i64 (n : Int)) (.int .i64 8) = some (.bool (decide (8 < n))) := fun kk => JiG rfl
 generalize decide (8 < n) = b at e1
 refine JbJ (NY.no _ rfl rfl rfl _ _) Tryz.func83 rfl (by kernel_rfl) ?_
 repeat refine Does.seq ?_
 refine Does.region ?_
 simp
 repeat refine Does.seq ?_
 refine Does.region ?_
 simp [e1]
 refine Does.ret ?_
 simp []
set_option maxHeartbeats 1000000 in
set_option maxRecDepth 100000 in
theorem Jg1 (gl : Gl) {aL : List V} (hh : Hits gl aL) (st : St) (s : S) (hs : s.n < 4000000000000000000) :
  ∃ v st', W Tryz.prog (.call gl 70 [.str s, .str specialS]) st = .call (.val v st') ∧ Jnx s st v st' := by
 have hk62 : Qa Tryz.prog 82 = true := by kernel_rfl
 have hk63 : Qa Tryz.prog 83 = true := by kernel_rfl
 have hk64 : Qa Tryz.prog 84 = true := by kernel_rfl
 have hk65 : Qa Tryz.prog 85 = true := by kernel_rfl
 have hlen := Jap Tryz.underlying9 (s := s)
 have hlS := Jap Tryz.underlying9 (s := specialS)
 have hnS : specialS.n = 3 := rfl
 rw [hnS] at hlS
 have hsS : specialS.same (S.ofList []) = false := by rw [JcU, hnS]; rfl
 refine Jda (NY.no _ rfl rfl rfl _ _) Tryz.func70 rfl (by kernel_rfl) ?_
 repeat refine Does.seq ?_
 refine Does.region ?_
 simp
 repeat refine Does.seq ?_
 refine Does.region ?_
 simp [Jo, hsS]
 repeat refine Does.seq ?_
 refine Does.condF (by simp) ?_
 refine Does.skip ?_
 simp
 repeat refine Does.seq ?_
 refine Does.region ?_
 simp [hlS, Jcp]
 repeat refine Does.seq ?_
 refine Does.condF (by simp) ?_
 refine Does.skip ?_
 simp
 repeat refine Does.seq ?_
 refine Does.region ?_
 have hsh := QB (JjE gl st s.n)
 refine Oks.cont (Q := fun fr st' => st' = st ∧ Fr.at fr 26 = .bool (decide (8 < s.n)) ∧ fr.ds = [] ∧ fr.gl = gl ∧ Fr.at fr 0 = .str s ∧ Fr.at fr 1 = .str specialS) ?r8 ?rest
 case r8 =>
  generalize decide (8 < s.n) = b at hsh
  simp [hlen, JY hk63, hsh]
 case rest =>
 rintro fr st' ⟨hst', h26, hds, hg, h0, h1⟩
 rw [hst']
 clear hst'
 simp only [andThen]
 repeat refine Does.seq ?_
 refine Does.mono (Q := Jny gl s st) ?big ?tail
 case big =>
  by_cases h8 : 8 < s.n
  ·rw [decide_eq_true h8] at h26
   refine Does.condT (by simp [h26]) ?_
   repeat refine Does.seq ?_
   refine Does.region ?_
   have hset := hh.set st
   obtain ⟨z256, hz67, hzl, hz1⟩ := Jm5
   have hzc : (V.agg z256).cells = z256 := rfl
   have hst := JfK (P := Tryz.prog) (st := { ctr := st.ctr + 1, box := st.box.put st.ctr (.cells z256 115 true (some 0)) }) (id := st.ctr) (cs := z256) (l := aL) (e := 115) (fl := true) Jm6 (by rw [Tr.get_put, if_pos rfl]) hzl hh.len hh.one
   have hkp : Keep st { ctr := st.ctr + 1, box := (st.box.put st.ctr (.cells z256 115 true (some 0))).put st.ctr (.cells aL 115 true (some 0)) } := Keep.put (id := st.ctr) ((Keep.refl st).new _) (Nat.le_refl _) _
   have hbx : ({ ctr := st.ctr + 1, box := (st.box.put st.ctr (.cells z256 115 true (some 0))).put st.ctr (.cells aL 115 true (some 0)) } : St).box.get st.ctr = some (.cells aL 115 true (some 0)) := by rw [Tr.get_put, if_pos rfl]
   simp only at hst
   obtain ⟨b1, hb1⟩ : ∃ b, b = true := ⟨true, rfl⟩
   have hz2 : z256.all Qb = b1 := by rw [hz1, hb1]
   simp [h1, hg, JY hk64, hset, Jw, hz67, hzc, hz2, hb1, J3, Qk, hst]
   revert hkp hbx
   generalize ({ ctr := st.ctr + 1, box := (st.box.put st.ctr (.cells z256 115 true (some 0))).put st.ctr (.cells aL 115 true (some 0)) } : St) = st1
   intro hkp hbx
   repeat refine Does.seq ?_
   refine Does.region ?_
   simp
   repeat refine Does.seq ?_
   refine Does.condT (by simp) ?_
   repeat refine Does.seq ?_
   refine Does.region ?_
   simp
   refine Does.mono (Q := fun e fr' st' => st' = st1 ∧ fr'.ds = [] ∧ ((e = AE.ret ∧ ∃ w : Int, Fr.at fr' 4 = .int .i64 w ∧ decide (0 ≤ w) = Q8 s.toList) ∨ (e = AE.normal ∧ Q8 s.toList = false))) ?aloop ?atail
   case atail =>
    rintro e fr' st' ⟨rfl, hds, ⟨rfl, w, h4, hw⟩ | ⟨rfl, hno⟩⟩
    ·exact ⟨hkp, hds, .inl ⟨rfl, w, h4, hw⟩⟩
    ·simp only [andThen]
     repeat refine Does.seq ?_
     refine Does.region ?_
     simp
     refine Does.ret ?_
     exact ⟨hkp, by simp [hds], .inl ⟨rfl, -1, by simp, by rw [hno]; rfl⟩⟩
   case aloop =>
    generalize hA : Q8 s.toList = A
    refine Does.block (Does.up s.n (fun n fr st' => st' = st1 ∧ fr.ds = [] ∧ fr.gl = gl ∧ Fr.at fr 0 = .str s ∧ Fr.at fr 6 = .ptr st.ctr 0 ∧ Fr.at fr 8 = .int .i64 (n : Int) ∧ n ≤ s.n ∧ Q8 (s.toList.take n) = false) 0 ?init ?Ql ?step)
    case init => exact ⟨rfl, by simp [hds], by simp [hg], by simp [h0], by simp, by simp, Nat.zero_le _, rfl⟩
    case Ql => exact fun i fr st' h => h.2.2.2.2.2.2.1
    case step =>
     clear hds hg h0 h1
     rintro n fr st' ⟨rfl, hds, hg, h0, h6, h8', hn, hall⟩
     repeat refine Does.seq ?_
     refine Does.region ?_
     have elen : ∀ kk, Jv Tryz.prog kk .lss 3 (.int .i64 (n : Int)) (.int .i64 (s.n : Int)) = some (.bool (decide (n < s.n))) := fun kk => Je7 rfl
     by_cases hlt : n < s.n
     ·rw [decide_eq_true hlt] at elen
      have hix2 := QX (P := Tryz.prog) (k := .i64) Tryz.underlying9 hlt
      have hco := QB (Jg0 gl st' st.ctr 115 true hh.get hbx (s.at n) (s.at_lt n))
      have w1 : IntKind.i64.wrap ((n : Int) + 1) = (n : Int) + 1 := Jn (by omega) (by omega)
      simp [h0, h8', hlen, elen]
      repeat refine Does.seq ?_
      refine Does.condT (by simp) ?_
      refine Does.skip ?_
      simp
      repeat refine Does.seq ?_
      refine Does.block ?_
      repeat refine Does.seq ?_
      refine Does.region ?_
      cases hcc : specials.elem (UInt8.ofNat (s.at n)) with
      | true =>
       rw [hcc] at hco
       simp [h0, h6, h8', hg, hix2, JY hk65, hco]
       repeat refine Does.seq ?_
       refine Does.condT (by simp) ?_
       repeat refine Does.seq ?_
       refine Does.region ?_
       simp [h8']
       refine Does.ret ?_
       simp only [inBlock, andThen]
       exact ⟨trivial, by simp [hds], .inl ⟨trivial, (n : Int), by simp, by rw [← hA, Jkj hlt hcc]; simp⟩⟩
      | false =>
       rw [hcc] at hco
       simp [h0, h6, h8', hg, hix2, JY hk65, hco]
       repeat refine Does.seq ?_
       refine Does.condF (by simp) ?_
       refine Does.skip ?_
       simp
       refine Does.region ?_
       simp [h8', Js, w1]
       exact ⟨n + 1, by omega, hds, hg, h0, h6, by simp, by omega, by rw [JeA hlt, hall, hcc]; rfl⟩
     ·rw [decide_eq_false hlt] at elen
      simp [h0, h8', hlen, elen]
      repeat refine Does.seq ?_
      refine Does.condF (by simp) ?_
      refine Does.exit ?_
      simp only [inBlock, if_true, andThen]
      rw [List.take_of_length_le (by simp; omega)] at hall
      exact ⟨trivial, by simp [hds], .inr ⟨trivial, hA.symm.trans hall⟩⟩
  ·rw [decide_eq_false h8] at h26
   refine Does.condF (by simp [h26]) ?_
   refine Does.skip ?_
   exact ⟨.refl st, hds, .inr ⟨rfl, hg, h0, h1⟩⟩
 case tail =>
  clear hds hg h0 h1 h26
  rintro e fr st1 ⟨hk1, hds, ⟨rfl, w, h4, hw⟩ | ⟨rfl, hg, h0, h1⟩⟩
  ·simp only [andThen]
   simp [hds, h4]
   exact ⟨w, rfl, hw, hk1⟩
  ·simp only [andThen]
   repeat refine Does.seq ?_
   refine Does.region ?_
   have hvr := JjD (P := Tryz.prog) (st := st1) (s := s) Tryz.underlying9
   have hkn : Keep st { st1 with ctr := st1.ctr + 1, box := st1.box.put st1.ctr (.iter s 0) } := hk1.new _
   have hbx : ({ st1 with ctr := st1.ctr + 1, box := st1.box.put st1.ctr (.iter s 0) } : St).box.get st1.ctr = some (.iter s 0) := by rw [Tr.get_put, if_pos rfl]
   have hct : st1.ctr < ({ st1 with ctr := st1.ctr + 1, box := st1.box.put st1.ctr (.iter s 0) } : St).ctr := Nat.lt_succ_self _
   simp [h0, Qk, hvr]
   have hst1 : st.ctr ≤ st1.ctr := hk1.ctr
   revert hkn hbx hct
   generalize ({ ctr := st1.ctr + 1, box := st1.box.put st1.ctr (.iter s 0) } : St) = st2
   generalize st1.ctr = id at hst1
   intro hkn hbx hct
   refine Does.mono (Q := fun e fr' st' => Keep st st' ∧ fr'.ds = [] ∧ ((e = AE.ret ∧ ∃ w : Int, Fr.at fr' 4 = .int .i64 w ∧ decide (0 ≤ w) = Q8 s.toList) ∨ (e = AE.normal ∧ Q8 s.toList = false))) ?rloop ?rtail
   case rtail =>
    clear hds hg h0 h1
    rintro e fr' st' ⟨hk', hds, ⟨rfl, w, h4, hw⟩ | ⟨rfl, hno⟩⟩
    ·simp only [andThen]
     simp [hds, h4]
     exact ⟨w, rfl, hw, hk'⟩
    ·simp only [andThen]
     repeat refine Does.seq ?_
     refine Does.region ?_
     simp
     refine Does.ret ?_
     simp [hds]
     exact ⟨-1, rfl, by rw [hno]; rfl, hk'⟩
   case rloop =>
    generalize hA : Q8 s.toList = A
    refine Does.block (Does.up s.n (fun n fr st' => Keep st st' ∧ id < st'.ctr ∧ st'.box.get id = some (.iter s n) ∧ fr.ds = [] ∧ fr.gl = gl ∧ Fr.at fr 1 = .str specialS ∧ Fr.at fr 45 = .ptr id 0 ∧ n ≤ s.n ∧ Q8 (s.toList.take n) = false) 0 ?init ?Ql ?step)
    case init => exact ⟨hkn, hct, hbx, by simp [hds], by simp [hg], by simp [h1], by simp, Nat.zero_le _, rfl⟩
    case Ql => exact fun i fr st' h => h.2.2.2.2.2.2.2.1
    case step =>
     clear hds hg h0 h1 hkn hct hbx hvr
     rintro n fr st' ⟨hk', hct, hbx, hds, hg, h1, h45, hn, hall⟩
     repeat refine Does.seq ?_
     refine Does.region ?_
     by_cases hlt : n < s.n
     ·have hnx := Jh5 hbx hlt
      obtain ⟨d1, d2⟩ := Jgm s hlt
      generalize Utf8.decode ⟨⟨s.toList⟩⟩ n = d at hnx d1 d2
      obtain ⟨c, wd⟩ := d
      simp only at hnx d2
      simp [h45, Qk, hnx]
      have hk2 : Keep st { ctr := st'.ctr, box := st'.box.put id (.iter s (n + wd)) } := hk'.put hst1 _
      have hbx2 : ({ ctr := st'.ctr, box := st'.box.put id (.iter s (n + wd)) } : St).box.get id = some (.iter s (n + wd)) := by rw [Tr.get_put, if_pos rfl]
      have hct2 : id < ({ ctr := st'.ctr, box := st'.box.put id (.iter s (n + wd)) } : St).ctr := hct
      revert hk2 hbx2 hct2
      generalize ({ ctr := st'.ctr, box := st'.box.put id (.iter s (n + wd)) } : St) = st3
      intro hk2 hbx2 hct2
      repeat refine Does.seq ?_
      refine Does.condT (by simp) ?_
      refine Does.skip ?_
      simp
      refine Does.block ?_
      repeat refine Does.seq ?_
      refine Does.region ?_
      simp
      repeat refine Does.seq ?_
      refine Does.region ?_
      have hcc : c < 128 ∨ c = 65533 ∨ (128 ≤ c ∧ Utf8.valid (c : Int) = true) := by
       rcases Nat.lt_or_ge (s.at n) 128 with h | h
       ·have := d1 h
        simp only [Prod.mk.injEq] at this
        left; omega
       ·obtain ⟨q1, q2, _⟩ := d2 h
        rcases q2 with q2 | q2
        ·exact .inr (.inl q2)
        ·exact .inr (.inr ⟨q1, q2⟩)
      obtain ⟨v, st4, hcall, w, rfl, hw, hk4⟩ := Jgq gl hh.bad st3 c hcc (fun args st h1 h2 => by rw [h2]; exact hh.no c st h1)
      have hsp : decide (0 ≤ w) = (decide (s.at n < 128) && specials.elem (UInt8.ofNat (s.at n))) := by
       rw [Bool.eq_iff_iff, decide_eq_true_eq, hw, Bool.and_eq_true, decide_eq_true_eq]
       rcases Nat.lt_or_ge (s.at n) 128 with h | h
       ·have := d1 h
        simp only [Prod.mk.injEq] at this
        obtain ⟨rfl, rfl⟩ := this
        simp
       ·obtain ⟨q1, _⟩ := d2 h
        constructor
        ·rintro ⟨h1, _⟩; omega
        ·rintro ⟨h1, _⟩; omega
      simp [h1, hg, JY hk62, hcall, Jco]
      repeat refine Does.seq ?_
      by_cases hw0 : 0 ≤ w
      ·refine Does.condT (by simp [hw0]) ?_
       repeat refine Does.seq ?_
       refine Does.region ?_
       simp
       refine Does.ret ?_
       rw [decide_eq_true hw0] at hsp
       have hsp2 := hsp.symm
       simp only [Bool.and_eq_true] at hsp2
       simp only [inBlock, andThen]
       exact ⟨hk2.trans hk4, by simp [hds], .inl ⟨trivial, (n : Int), by simp, by rw [← hA, Jkj hlt hsp2.2]; simp⟩⟩
      ·refine Does.condF (by simp [hw0]) ?_
       refine Does.skip ?_
       simp
       rw [decide_eq_false hw0] at hsp
       have hbx4 : st4.box.get id = some (.iter s (n + wd)) := by rw [hk4.box id hct2]; exact hbx2
       rcases Nat.lt_or_ge (s.at n) 128 with h | h
       ·have := d1 h
        simp only [Prod.mk.injEq] at this
        obtain ⟨rfl, rfl⟩ := this
        rw [decide_eq_true h, Bool.true_and] at hsp
        exact ⟨n + 1, by omega, hk2.trans hk4, by have := hk4.ctr; omega, hbx4, hds, hg, h1, h45, by omega, by rw [JeA hlt, hall, ← hsp]; rfl⟩
       ·obtain ⟨_, _, q3, q4, q5⟩ := d2 h
        exact ⟨n + wd, by omega, hk2.trans hk4, by have := hk4.ctr; omega, hbx4, hds, hg, h1, h45, q4, JgZ wd q4 q5 hall⟩
     ·have hnx := Jh6 hbx hlt
      simp [h45, Qk, hnx]
      repeat refine Does.seq ?_
      refine Does.condF (by simp) ?_
      refine Does.exit ?_
      simp only [inBlock, if_true, andThen]
      rw [List.take_of_length_le (by simp; omega)] at hall
      exact ⟨hk', by simp [hds], .inr ⟨trivial, hA.symm.trans hall⟩⟩
theorem JeB (gl : Gl) {aL : List V} (hh : Hits gl aL) (st : St) (s : S) (hs : s.n < 4000000000000000000) :
  ∃ v st', W Tryz.prog (.call gl 59 [.str s, .str specialS]) st = .call (.val v st') ∧ v = .bool (Q8 s.toList) ∧ Keep st st' := by
 have hk57 : Qa Tryz.prog 70 = true := by kernel_rfl
 obtain ⟨v, st', hc, w, rfl, hw, hk⟩ := Jg1 gl hh st s hs
 have hc := QB hc
 refine Jda (NY.no _ rfl rfl rfl _ _) Tryz.func59 rfl (by kernel_rfl) ?_
 repeat refine Does.seq ?_
 refine Does.region ?_
 simp
 repeat refine Does.seq ?_
 refine Does.region ?_
 simp [JY hk57, hc, Jco]
 refine Does.ret ?_
 rw [← hw]
 simp [hk]
end Go.Vm
namespace Go.Vm
open Go Go.Proofs Go.Pa
attribute [local simp] Oks J1 Jg Jh vop Ji Jp ev evs toV andThen inBlock Jf Fr.dsTo Fr.glTo Fr.toNone Jc Jd Je JZ Jb Jr Jj V.undef JG Qf Qw
theorem Jkk [Memo] {P : Program} {ops : Array Oper} (a : List Oper) : ∀ (b : List Oper) (fr : Fr) (st : St), J1 P (ihCall (W P)) none ops (a ++ b) fr st =
  match J1 P (ihCall (W P)) none ops a fr st with
  | .ok fr1 st1 => J1 P (ihCall (W P)) none ops b fr1 st1
  | r => r := by
 induction a with
 | nil => intro b fr st; rfl
 | cons o r ih =>
  intro b fr st
  simp only [List.cons_append, J1]
  cases Jg ops fr o with
  | false => exact ih ..
  | true =>
   cases Jh o.op with
   | false =>
    cases vop P (ihCall (W P)) fr st o.op with
    | val v st' => exact ih ..
    | panic v st' => rfl
    | fail w => rfl
   | true =>
    generalize Jb7 P fr o.op = d
    cases d with
    | none => rfl
    | some d => exact ih ..
theorem Oks.cut [Memo] {P : Program} {ops : Array Oper} {l : List Oper} {fr : Fr} {st : St} {Q : Fr → St → Prop} (n : Nat) (R : Fr → St → Prop) (h : Oks P ops (l.take n) fr st R)
  (k : ∀ fr' st', R fr' st' → Oks P ops (l.drop n) fr' st' Q) : Oks P ops l fr st Q := by
 unfold Oks at h ⊢
 rw [← List.take_append_drop n l, Jkk]
 cases hx : J1 P (ihCall (W P)) none ops (l.take n) fr st with
 | ok fr1 st1 => rw [hx] at h; exact k fr1 st1 h
 | panic v fr1 st1 => rw [hx] at h; exact h.elim
 | fail w => rw [hx] at h; exact h.elim
def JbW (s : S) : Bool := !decide (s.n = 0) && decide (s.n ≤ 64) && !s.same (S.ofList [46]) && !s.same (S.ofList [46, 46]) && !Q8 s.toList
def Jnz (st st' : St) : Prop := st' = st
def NmF (gl : Gl) (s : S) (st : St) (k : Nat) (b : Bool) (fr : Fr) (st' : St) : Prop := Jnz st st' ∧ fr.ds = [] ∧ fr.gl = gl ∧ Fr.at fr 0 = .str s ∧ Fr.at fr k = .bool b
variable [Memo] [NY]
set_option maxRecDepth 100000 in
theorem Jmv (gl : Gl) {aL : List V} (hh : Hits gl aL) (st : St) (s : S) :
  ∃ v st', W Tryz.prog (.call gl 35 [.str s]) st = .call (.val v st') ∧ v = .bool (JbW s) ∧ Keep st st' := by
 have hk65 : Qa Tryz.prog 59 = true := by kernel_rfl
 have hemp := JcU s
 have ls := Jap Tryz.underlying9 (s := s)
 have e64 : ∀ kk, Jv Tryz.prog kk .leq 3 (.int .i64 (s.n : Int)) (.int .i64 64) = some (.bool (decide (s.n ≤ 64))) := fun kk => JiF rfl
 unfold JbW
 have hca : decide (s.n ≤ 64) = true → ∃ v st', ihCall (W Tryz.prog) gl (.f 59) [.str s, .str specialS] st = .val v st' ∧ v = .bool (Q8 s.toList) ∧ Keep st st' := fun h => by
  obtain ⟨v, st', h1, h2, h3⟩ := JeB gl hh st s (by have := of_decide_eq_true h; omega)
  exact ⟨v, st', QB h1, h2, h3⟩
 refine Jda (NY.no _ rfl rfl rfl _ _) Tryz.func35 rfl (by kernel_rfl) ?_
 repeat refine Does.seq ?_
 refine Does.region ?_
 simp
 repeat refine Does.seq ?_
 refine Does.region ?_
 generalize decide (s.n = 0) = z at hemp
 generalize decide (s.n ≤ 64) = l at e64 hca
 generalize hd1 : s.same (S.ofList [46]) = d1
 generalize hd2 : s.same (S.ofList [46, 46]) = d2
 generalize Q8 s.toList = an at hca
 refine Oks.cut 8 (NmF gl s st 10 (!z && l)) ?c1 ?c2
 case c1 => as_aux_lemma =>
  simp only [List.take]
  cases z with
  | true =>
   simp [Jk, hemp]
   exact ⟨rfl, by simp, by simp, by simp, by simp⟩
  | false =>
   simp [Jk, hemp, ls, e64]
   exact ⟨rfl, by simp, by simp, by simp, by simp⟩
 case c2 => as_aux_lemma =>
 rintro fr st' ⟨hst', hds, hg, h0, h10⟩
 rw [show st' = st from hst']
 clear hst'
 simp only [List.drop]
 generalize hzl : (!z && l) = zl at h10
 refine Oks.cut 4 (NmF gl s st 14 (zl && !d1)) ?c3 ?c4
 case c3 => as_aux_lemma =>
  simp only [List.take]
  cases zl with
  | false =>
   simp [h10]
   exact ⟨rfl, by simp [hds], by simp [hg], by simp [h0], by simp⟩
  | true =>
   simp [h10, h0, Jk, hd1]
   exact ⟨rfl, by simp [hds], by simp [hg], by simp [h0], by simp⟩
 case c4 => as_aux_lemma =>
 clear hds hg h0 h10
 rintro fr st' ⟨hst', hds, hg, h0, h14⟩
 rw [show st' = st from hst']
 clear hst'
 simp only [List.drop]
 generalize hzd : (zl && !d1) = zd at h14
 refine Oks.cut 4 (NmF gl s st 18 (zd && !d2)) ?c5 ?c6
 case c5 => as_aux_lemma =>
  simp only [List.take]
  cases zd with
  | false =>
   simp [h14]
   exact ⟨rfl, by simp [hds], by simp [hg], by simp [h0], by simp⟩
  | true =>
   simp [h14, h0, Jk, hd2]
   exact ⟨rfl, by simp [hds], by simp [hg], by simp [h0], by simp⟩
 case c6 => as_aux_lemma =>
 clear hds hg h0 h14
 rintro fr st' ⟨hst', hds, hg, h0, h18⟩
 rw [show st' = st from hst']
 clear hst'
 simp only [List.drop]
 generalize hze : (zd && !d2) = ze at h18
 cases ze with
 | false =>
  simp [h18]
  refine Does.ret ?_
  simp [hds]
  exact .refl _
 | true =>
  have hl : l = true := by
   cases l with
   | true => rfl
   | false => rw [Bool.and_false] at hzl; rw [← hzl, Bool.false_and] at hzd; rw [← hzd, Bool.false_and] at hze; cases hze
  obtain ⟨v, st2, hc, rfl, hk⟩ := hca hl
  have hsp : (V.str specialS) = .str (S.ofList [47, 0, 10]) := rfl
  rw [hsp] at hc
  simp [h18, h0, hg, JY hk65, hc]
  refine Does.ret ?_
  simp [hds]
  exact hk
end Go.Vm
