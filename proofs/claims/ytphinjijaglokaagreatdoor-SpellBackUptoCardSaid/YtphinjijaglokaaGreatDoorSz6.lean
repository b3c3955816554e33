/- The place of a fact: by the program. -/
import Derived.Test.YtphinjijaglokaaGreatDoorSz5
namespace Go.Vm
open Go Go.Proofs Go.Pa
attribute [local simp] OkG Qa Qe OkD J3 Qd JA Je Jj vop Jk Jr ev evs toV Ji Fr.dsTo Fr.glTo Fr.toNone Jf Jg Jh J9 Qu Jc Jy Jn V.undef JP JI JY JS JZ J7 J0 J1 JD J2 JV JT JQ J8 Jq Jo Jt Jw Jx Jp JL JM JC Qg Jaj Jak Q2
theorem z26 : Qc Tryz.prog 28 = some 1 := by kernel_rfl
theorem a26 : QS Tryz.prog 28 = some false := by kernel_rfl
theorem Jjy {st : St} {T id : Nat} {v w : V} {e : TypeId} {fl : Bool} (hz : Qc Tryz.prog T = some 1) (hs : JgO v = true) (hb : st.box.get id = some (.cells [w] e fl (some 0))) : Q3 Tryz.prog st T (.ptr id 0) v = some (st.put id (.cells [v] e fl (some 0))) := by
 rw [Q1 hz hb (by simp) hs]; rfl
theorem two {s : St} {a b : Nat} {v w v0 w0 : V} (hab : a ≠ b) (ha : s.box.get a = some (.cells [v0] 22 true (some 0))) (hb : s.box.get b = some (.cells [w0] 28 true (some 0))) (hv : JgO v = true) (hw : JgO w = true) :
  ∃ s2 s3, Q3 Tryz.prog s 22 (.ptr a 0) v = some s2 ∧ Q3 Tryz.prog s2 28 (.ptr b 0) w = some s3 ∧ Qo Tryz.prog s3 22 (.ptr a 0) = some v ∧ Qo Tryz.prog s3 28 (.ptr b 0) = some w ∧ s3.ctr = s.ctr ∧
   s3.box.get a = some (.cells [v] 22 true (some 0)) ∧ s3.box.get b = some (.cells [w] 28 true (some 0)) ∧ ∀ i, i ≠ a → i ≠ b → s3.box.get i = s.box.get i := by
 have h1 := Jjy z23 hv ha
 have hb2 : (s.put a (.cells [v] 22 true (some 0))).box.get b = some (.cells [w0] 28 true (some 0)) := by rw [put_get, if_neg (Ne.symm hab)]; exact hb
 have h2 := Jjy z26 hw hb2
 have ga : ((s.put a (.cells [v] 22 true (some 0))).put b (.cells [w] 28 true (some 0))).box.get a = some (.cells [v] 22 true (some 0)) := by rw [put_get, if_neg hab, put_get, if_pos rfl]
 have gb : ((s.put a (.cells [v] 22 true (some 0))).put b (.cells [w] 28 true (some 0))).box.get b = some (.cells [w] 28 true (some 0)) := by rw [put_get, if_pos rfl]
 exact ⟨_, _, h1, h2, Qx (off := 0) a23 z23 ga rfl, Qx (off := 0) a26 z26 gb rfl, rfl, ga, gb, fun i h3 h4 => by rw [put_get, if_neg h4, put_get, if_neg h3]⟩
variable [Memo] [NY]
end Go.Vm
namespace Go.Vm
open Go Go.Proofs Go.Pa
end Go.Vm
namespace Go.Vm
open Go Go.Proofs Go.Pa
attribute [local simp] OkG Qa Qe OkD J3 Qd JA Je Jj vop Jk Jr ev evs toV Ji Fr.dsTo Fr.glTo Fr.toNone Jf Jg Jh J9 Qu Jc Jy Jn V.undef JP JI JY JS JZ J7 J0 J1 JD J2 JV JT JQ J8 Jq Jo Jt Jw Jx Jp JL JM JC Qg Jaj Jak Q2
def JcC : Nat → Nat → List UInt8
 | 0, _ => []
 | d + 1, n => (if n / 10 = 0 then [] else JcC d (n / 10)) ++ [UInt8.ofNat (48 + n % 10)]
def QY (n : Nat) : List UInt8 := JcC (n + 1) n
def Jhm (f : Fw) : List UInt8 :=
 cond (!f.known) [97, 110, 121] <| cond (decide (f.kind = 0)) [97, 98, 115, 101, 110, 116] <| cond (decide (f.kind = 1)) [102, 105, 108, 101] <| cond (decide (f.kind = 3)) [108, 105, 110, 107] <|
 cond (decide (f.rest = 1)) ([100, 105, 114, 32, 119, 104, 111, 108, 101]) <| cond (decide (f.rest = 2)) ([100, 105, 114, 32, 109, 111, 114, 101, 32] ++ QY f.beside.toNat) [100, 105, 114]
theorem Jme (a b : S) : (a.app b).n = a.n + b.n := rfl
theorem Jcb (l : List UInt8) : (S.ofList l).n = l.length := rfl
variable [Memo] [NY]
class NZ [Memo] : Prop where
 itoa : ∀ (n : Nat) (st : St), n ≤ 255 → ∃ t : S, (Memo.look 23).run [.int .i64 (n : Int)] st = some (.str t, st) ∧ t.toList = QY n
 digits : ∀ (n : Nat) (st : St), n ≤ 255 → ∃ t : S, (Memo.look 45).run [.int .i64 (n : Int)] st = some (.str t, st) ∧ t.toList = QY n
 itoaN : ∀ (n : Nat) (st : St), 255 < n → (Memo.look 23).run [.int .i64 (n : Int)] st = none
 digitsN : ∀ (n : Nat) (st : St), 255 < n → (Memo.look 45).run [.int .i64 (n : Int)] st = none
omit [NY] in
theorem JdZ {P : Program} {gl : Gl} {f : Nat} {args : List V} {st st' : St} {v : V} (h : (Memo.look f).run args st = some (v, st')) : W P (.call gl f args) st = .call (.val v st') := by
 refine Jk2 rfl ⟨1, fun m hm => ?_⟩
 obtain ⟨k, rfl⟩ : ∃ k, m = k + 1 := ⟨m - 1, by omega⟩
 simp only [X, Jc2, h]
omit [NY] in
theorem JkO [NZ] (gl : Gl) (st : St) (n : Nat) (h : n ≤ 255) : Says Tryz.prog gl 23 [.int .i64 (n : Int)] st fun v st' => (∃ t : S, v = .str t ∧ t.toList = QY n) ∧ Sm st st' := by
 obtain ⟨t, h1, h2⟩ := NZ.itoa n st h
 exact ⟨_, _, JdZ h1, ⟨t, rfl, h2⟩, rfl⟩
end Go.Vm
