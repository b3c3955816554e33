/- The place of a fact: by the program. -/
import Derived.Test.YtphinjijaglokaaGreatDoorSz5
namespace Go.Vm
open Go Go.Proofs Go.Pa
attribute [local simp] OkG JX J2 OkD JH J1 Ju Jg Jh vop Ji Jp ev evs toV Jf Fr.dsTo Fr.glTo Fr.toNone Jc Jd Je JZ Qk Jb Jr Jj V.undef JG Jx JK JI JL JO JT JP JF JQ JU JM JJ JV Jo Jk Jl Js Jt Jn Jy Jz Jw J3 JE Q3 Qd
theorem z26 : J5 Tryz.prog 28 = some 1 := by kernel_rfl
theorem a26 : QM Tryz.prog 28 = some false := by kernel_rfl
theorem Jh7 {st : St} {T id : Nat} {v w : V} {e : TypeId} {fl : Bool} (hz : J5 Tryz.prog T = some 1) (hs : JjY v = true) (hb : st.box.get id = some (.cells [w] e fl (some 0))) : Jak Tryz.prog st T (.ptr id 0) v = some (st.put id (.cells [v] e fl (some 0))) := by
 rw [Jaz hz hb (by simp) hs]; rfl
theorem two {s : St} {a b : Nat} {v w v0 w0 : V} (hab : a ≠ b) (ha : s.box.get a = some (.cells [v0] 22 true (some 0))) (hb : s.box.get b = some (.cells [w0] 28 true (some 0))) (hv : JjY v = true) (hw : JjY w = true) :
  ∃ s2 s3, Jak Tryz.prog s 22 (.ptr a 0) v = some s2 ∧ Jak Tryz.prog s2 28 (.ptr b 0) w = some s3 ∧ Qj Tryz.prog s3 22 (.ptr a 0) = some v ∧ Qj Tryz.prog s3 28 (.ptr b 0) = some w ∧ s3.ctr = s.ctr ∧
   s3.box.get a = some (.cells [v] 22 true (some 0)) ∧ s3.box.get b = some (.cells [w] 28 true (some 0)) ∧ ∀ i, i ≠ a → i ≠ b → s3.box.get i = s.box.get i := by
 have h1 := Jh7 z23 hv ha
 have hb2 : (s.put a (.cells [v] 22 true (some 0))).box.get b = some (.cells [w0] 28 true (some 0)) := by rw [JR, if_neg (Ne.symm hab)]; exact hb
 have h2 := Jh7 z26 hw hb2
 have ga : ((s.put a (.cells [v] 22 true (some 0))).put b (.cells [w] 28 true (some 0))).box.get a = some (.cells [v] 22 true (some 0)) := by rw [JR, if_neg hab, JR, if_pos rfl]
 have gb : ((s.put a (.cells [v] 22 true (some 0))).put b (.cells [w] 28 true (some 0))).box.get b = some (.cells [w] 28 true (some 0)) := by rw [JR, if_pos rfl]
 exact ⟨_, _, h1, h2, J9 (off := 0) a23 z23 ga rfl, J9 (off := 0) a26 z26 gb rfl, rfl, ga, gb, fun i h3 h4 => by rw [JR, if_neg h4, JR, if_neg h3]⟩
variable [Memo] [NY]
end Go.Vm
namespace Go.Vm
open Go Go.Proofs Go.Pa
end Go.Vm
namespace Go.Vm
open Go Go.Proofs Go.Pa
attribute [local simp] OkG JX J2 OkD JH J1 Ju Jg Jh vop Ji Jp ev evs toV Jf Fr.dsTo Fr.glTo Fr.toNone Jc Jd Je JZ Qk Jb Jr Jj V.undef JG Jx JK JI JL JO JT JP JF JQ JU JM JJ JV Jo Jk Jl Js Jt Jn Jy Jz Jw J3 JE Q3 Qd
def JbE (b : UInt8) : List UInt8 := if b = 10 then [92, 110] else if b = 92 then [92, 92] else [b]
def esc (l : List UInt8) : List UInt8 := l.flatMap JbE
def Jbs (p : List S) : List UInt8 := match p with
 | [] => [47]
 | p => p.flatMap fun s => 47 :: s.toList
def JeC : Nat → Nat → List UInt8
 | 0, _ => []
 | d + 1, n => (if n / 10 = 0 then [] else JeC d (n / 10)) ++ [UInt8.ofNat (48 + n % 10)]
def Ja1 (n : Nat) : List UInt8 := JeC (n + 1) n
def Jh8 (f : Fw) : List UInt8 :=
 cond (!f.known) [97, 110, 121] <| cond (decide (f.kind = 0)) [97, 98, 115, 101, 110, 116] <| cond (decide (f.kind = 1)) [102, 105, 108, 101] <| cond (decide (f.kind = 3)) [108, 105, 110, 107] <|
 cond (decide (f.rest = 1)) ([100, 105, 114, 32, 119, 104, 111, 108, 101]) <| cond (decide (f.rest = 2)) ([100, 105, 114, 32, 109, 111, 114, 101, 32] ++ Ja1 f.beside.toNat) [100, 105, 114]
theorem Ji5 (a b : List UInt8) : esc (a ++ b) = esc a ++ esc b := by simp [esc]
theorem JbX : ∀ l : List UInt8, (esc l).length ≤ 2 * l.length
 | [] => Nat.le_refl _
 | a :: l => by
  have := JbX l
  have h1 : (JbE a).length ≤ 2 := by
   unfold JbE
   split
   ·simp
   ·split <;> simp
  rw [show esc (a :: l) = JbE a ++ esc l from by simp [esc], List.length_append, List.length_cons]; omega
theorem Jkl (s : S) {i : Nat} (h : i < s.n) : s.toList.take (i + 1) = s.toList.take i ++ [UInt8.ofNat (s.at i)] := by
 have h1 := s.toList_at h
 have h2 : i < s.toList.length := by rw [S.len]; exact h
 rw [List.take_add_one, h1]; rfl
theorem JeD (a b : S) : (a.app b).n = a.n + b.n := rfl
theorem JaG (l : List UInt8) : (S.ofList l).n = l.length := rfl
theorem Ji6 : JbE (UInt8.ofNat 10) = [92, 110] := rfl
theorem Ji7 : JbE (UInt8.ofNat 92) = [92, 92] := rfl
theorem JfL {c : Nat} (hc : c < 256) (h1 : ¬ c = 10) (h2 : ¬ c = 92) : JbE (UInt8.ofNat c) = [UInt8.ofNat c] := by
 have e1 : ¬ UInt8.ofNat c = 10 := fun h => h1 ((JgE hc (by decide : 10 < 256)).1 h)
 have e2 : ¬ UInt8.ofNat c = 92 := fun h => h2 ((JgE hc (by decide : 92 < 256)).1 h)
 unfold JbE
 rw [if_neg e1, if_neg e2]
variable [Memo] [NY]
omit [Memo] [NY] in
theorem JbF (c : UInt8) {B : Nat} : ∀ (p : List S), (∀ s ∈ p, s.n ≤ B) → (p.flatMap fun s => c :: s.toList).length ≤ (B + 1) * p.length
 | [], _ => Nat.zero_le _
 | s :: p, h => by
  have := JbF c p fun t ht => h t (by simp [ht])
  have := h s (by simp)
  simp only [List.flatMap_cons, List.length_append, List.length_cons, S.len, Nat.mul_add]; omega
omit [Memo] [NY] in
theorem Jkm (p : List S) (h : ∀ s ∈ p, s.n ≤ 300) : (p.flatMap fun s => 47 :: s.toList).length ≤ 301 * p.length := JbF 47 p h
omit [Memo] [NY] in
theorem JjF {c : UInt8} {p : List S} {i : Nat} (h : i < p.length) : (p.take (i + 1)).flatMap (fun s => c :: s.toList) = (p.take i).flatMap (fun s => c :: s.toList) ++ c :: p[i].toList := by
 rw [List.take_add_one, List.getElem?_eq_getElem h, List.flatMap_append]; simp
omit [Memo] [NY] in
theorem JeE {p : List S} (h : ¬ p = []) : Jbs p = p.flatMap fun s => 47 :: s.toList := by
 cases p with
 | nil => exact absurd rfl h
 | cons a b => rfl
class NZ [Memo] : Prop where
 itoa : ∀ (n : Nat) (st : St), n ≤ 255 → ∃ t : S, (Memo.look 23).run [.int .i64 (n : Int)] st = some (.str t, st) ∧ t.toList = Ja1 n
 digits : ∀ (n : Nat) (st : St), n ≤ 255 → ∃ t : S, (Memo.look 45).run [.int .i64 (n : Int)] st = some (.str t, st) ∧ t.toList = Ja1 n
 itoaN : ∀ (n : Nat) (st : St), 255 < n → (Memo.look 23).run [.int .i64 (n : Int)] st = none
 digitsN : ∀ (n : Nat) (st : St), 255 < n → (Memo.look 45).run [.int .i64 (n : Int)] st = none
omit [NY] in
theorem Jc3 {P : Program} {gl : Gl} {f : Nat} {args : List V} {st st' : St} {v : V} (h : (Memo.look f).run args st = some (v, st')) : W P (.call gl f args) st = .call (.val v st') := by
 refine JkC rfl ⟨1, fun m hm => ?_⟩
 obtain ⟨k, rfl⟩ : ∃ k, m = k + 1 := ⟨m - 1, by omega⟩
 simp only [X, Jdo, h]
omit [NY] in
theorem JlF [NZ] (gl : Gl) (st : St) (n : Nat) (h : n ≤ 255) : Says Tryz.prog gl 23 [.int .i64 (n : Int)] st fun v st' => (∃ t : S, v = .str t ∧ t.toList = Ja1 n) ∧ Sm st st' := by
 obtain ⟨t, h1, h2⟩ := NZ.itoa n st h
 exact ⟨_, _, Jc3 h1, ⟨t, rfl, h2⟩, rfl⟩
end Go.Vm
