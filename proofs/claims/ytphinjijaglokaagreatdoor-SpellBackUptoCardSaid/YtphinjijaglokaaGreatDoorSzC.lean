/- Which texts, files and links may be: by the program. -/
import Derived.Test.YtphinjijaglokaaGreatDoorSz8
import Derived.Test.YtphinjijaglokaaGreatDoorSz4
import Derived.Test.YtphinjijaglokaaGreatDoorSzB
namespace Go.Vm
open Go Go.Proofs Go.Pa
attribute [local simp] OkG Qa Qe OkD J3 Qd JA Je Jj vop Jk Jr ev evs toV Ji Fr.dsTo Fr.glTo Fr.toNone Jf Jg Jh J9 Qu Jc Jy Jn V.undef JP JI JY JS JZ J7 J0 J1 JD J2 JV JT JQ J8 Jq Jo Jt Jw Jx Jp JL JM JC Qg
def noZ (s : S) : Bool := !s.toList.contains 0
def Jfz (s : S) : Bool := noZ s && decide (s.n ≤ 256)
theorem Jjh (s : S) : decide (Lib.indexByte s.toList 0 < 0) = noZ s := by
 have h := Jbj s.toList 0
 unfold noZ
 by_cases hm : (0 : UInt8) ∈ s.toList
 ·rw [decide_eq_false (by have := h.2 hm; omega)]
  simp [hm]
 ·rw [decide_eq_true (by have : ¬ 0 ≤ Lib.indexByte s.toList 0 := fun hh => hm (h.1 hh); omega)]
  simp [hm]
variable [Memo] [NY]
end Go.Vm
namespace Go.Vm
open Go Go.Proofs Go.Pa
attribute [local simp] OkS Qf OkG Qa Qe OkD J3 Qd JA Je Jj vop Jk Jr ev evs toV Ji Fr.dsTo Fr.glTo Fr.toNone Jf Jg Jh J9 Qu Jc Jy Jn V.undef JP JI JY JS JZ J7 J0 J1 JD J2 JV JT JQ J8 Jq Jo Jt Jw Jx Jp JL JM JC Qg
theorem Jkv : ∀ {l : List UInt8}, 58 ∈ l → ∃ pre rest, l = pre ++ 58 :: rest ∧ 58 ∉ pre ∧ l.takeWhile (· ≠ 58) = pre
 | [], h => by simp at h
 | a :: l, h => by
  by_cases ha : a = 58
  ·subst ha; exact ⟨[], l, rfl, by simp, by simp⟩
  ·have hl : 58 ∈ l := by
    rcases List.mem_cons.1 h with h | h
    ·exact absurd h.symm ha
    ·exact h
   obtain ⟨p, r, h1, h2, h3⟩ := Jkv hl
   refine ⟨a :: p, r, by rw [h1]; rfl, fun hm => ?_, by rw [List.takeWhile_cons, if_pos (by simpa using ha), h3]⟩
   rcases List.mem_cons.1 hm with hm | hm
   ·exact ha hm.symm
   ·exact h2 hm
theorem Jkw {l : List UInt8} (h : 0 < l.count 58) : ∃ pre rest, l = pre ++ 58 :: rest ∧ 58 ∉ pre ∧ Lib.indexByte l 58 = (pre.length : Int) ∧ rest.count 58 + 1 = l.count 58 := by
 have hm : (58 : UInt8) ∈ l := List.count_pos_iff.1 h
 obtain ⟨p, r, h1, h2, h3⟩ := Jkv hm
 refine ⟨p, r, h1, h2, by rw [Jbi, if_pos hm, h3], ?_⟩
 rw [h1, List.count_append, List.count_cons, List.count_eq_zero.2 h2]
 simp
theorem Jbd : JaS Tryz.prog 9 (.str (S.ofList [58])) = some (.int .i64 1) := by simp only [JaS, Tryz.underlying9]; rfl
variable [Memo] [NY]
variable [NZ] [NO]
end Go.Vm
namespace Go.Vm
open Go Go.Proofs Go.Pa
attribute [local simp] OkS Qf OkG Qa Qe OkD J3 Qd JA Je Jj vop Jk Jr ev evs toV Ji Fr.dsTo Fr.glTo Fr.toNone Jf Jg Jh J9 Qu Jc Jy Jn V.undef JP JI JY JS JZ J7 J0 J1 JD J2 JV JT JQ J8 Jq Jo Jt Jw Jx Jp JL JM JC Qg
theorem Jkx {s : S} : (S.ofList [58]).same s = true ↔ s.toList = [58] := by rw [S.same_eq, S.toList_ofList, beq_iff_eq]; exact ⟨Eq.symm, Eq.symm⟩
variable [Memo] [NY]
set_option maxHeartbeats 1000000 in
set_option maxRecDepth 100000 in
theorem Jm0 (gl : Gl) (st : St) (s : S) :
  Says Tryz.prog gl 98 [.str s, .str (S.ofList [58])] st (fun v st' => v = .int .i64 (Lib.indexByte s.toList 58) ∧ Sm st st') := by
 refine Qm (NY.no _ rfl rfl rfl _ _) Tryz.func98 rfl (by kernel_rfl) fun R hR K gr gn => ?_
 generalize hfr : JJ gl [.str s, .str (S.ofList [58])] = fr
 have hF : Fs gl [(0, .str s), (1, .str (S.ofList [58]))] fr := by subst hfr; simp [Fs]
 simp only [Fs] at hF
 clear hfr
 have hc := J4 (P := Tryz.prog) (ih := ihCall (W Tryz.prog)) (gl := gl) (args := [.str s, .int .u8 ((58 : Nat) : Int)]) (st := st) (show Qp Tryz.prog 58 = true by kernel_rfl)
 rw [QR (Jd9 gl st s 58)] at hc
 have hc : Jbc Tryz.prog (ihCall (W Tryz.prog)) gl 58 [.str s, .int .u8 58] st = .val (.int .i64 (Lib.indexByte s.toList 58)) st := hc
 have hix : JaQ Tryz.prog 9 (.str (S.ofList [58])) (.int .i64 0) = some (.int .u8 58) := by kernel_rfl
 have e0 : ∀ kk, Js Tryz.prog kk .eql 3 (.int .i64 1) (.int .i64 0) = some (.bool false) := fun kk => Jcg
 have e1 : ∀ kk, Js Tryz.prog kk .eql 3 (.int .i64 1) (.int .i64 1) = some (.bool true) := fun kk => Jcg
 obtain ⟨B, hB⟩ : ∃ b, (S.ofList [58]).same s = b := ⟨_, rfl⟩
 refine Ks_ (Ka_ (gs := [none]) fun K1 gK => ?_)
 simp (disch := omega) []
 refine gK _ _ (Ks_ (Ka_ (gs := [none, none, none]) fun K1 gK => ?_))
 simp (disch := omega) [hF, Jbd]
 refine gK _ _ (Ks_ ?_)
 refine Kb_ fun K1 gn1 gx1 go1 => ?_
 have gr1 := fun fr st h => go1 AE.ret fr st trivial (gr fr st h)
 refine Ks_ (Ka_ (gs := [none, none, none, some (some 19, false), some (some 19, false), some (some 19, false), none, none]) fun K1 gK => ?_)
 simp (disch := omega) [hF, e0, hB]
 refine gK _ _ ?_
 cases B with
 | true =>
  refine Kt_ (by simp (disch := omega) []) ?_
  have hl := Jkx.1 hB
  have hz : Lib.indexByte s.toList 58 = 0 := by rw [hl]; rfl
  refine Ks_ (Ka_ (gs := [none]) fun K1 gK => ?_)
  simp (disch := omega) []
  refine gK _ _ (Kq_ (gr1 _ _ ?_))
  simp [JR, Tryz.f98, hF]
  refine hR _ _ ?_
  exact ⟨by rw [hz], rfl⟩
 | false =>
  refine Kf_ (by simp (disch := omega) []) (Ks_ (Ka_ (gs := [none, none, none]) fun K1 gK => ?_))
  simp (disch := omega) [e1]
  refine gK _ _ (Kt_ (by simp (disch := omega) []) (Ks_ (Ka_ (gs := [none, none, none, none, none]) fun K1 gK => ?_)))
  simp (disch := omega) [hF, hc, hix]
  refine gK _ _ (Kq_ (gr1 _ _ ?_))
  simp [JR, Tryz.f98, hF]
  refine hR _ _ ?_
  exact ⟨rfl, rfl⟩
variable [NZ] [NO]
end Go.Vm
