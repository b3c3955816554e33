/- The cutter: put, cut. -/
import Derived.Test.YtedkiipdgffoaaaDoorLxG
namespace Go.Vm
open Go Go.Proofs Go.Lx
attribute [local simp] Oks xOps vwanted isDefer vop kindOf vpure ev evs toV andThen inBlock atTo_some Fr.dsTo Fr.glTo Fr.toNone initFr_at initFr_ds initFr_gl veff traverse tupled vresult V.undef evOpt xDraw xStep

/-- what put comes to -/
def PutR (lo id : Nat) (s : S) (b : Nat) (ts : List Tk) (st st' : St) : Prop :=
  ∃ out', Cu st' id s b out' ∧ Ot lo st' out' ts ∧ st.ctr ≤ st'.ctr ∧ ∀ i, i < lo → i ≠ id → st'.box.get i = st.box.get i

theorem Cu.l2 {st : St} {id : Nat} {s : S} {a : Nat} {out : V} (h : Cu st id s a out) : vload Tryd.prog st 25 (.ptr id 2) = some out := vload_of a25 z25 h rfl
theorem Cu.setOut {st : St} {id : Nat} {s : S} {a : Nat} {out : V} (h : Cu st id s a out) {z : V} (hz : oneC z = true) (hs : simV z = true) : vstore Tryd.prog st 25 (.ptr id 2) z = some { st with box := st.box.put id (.cells [.str s, .int .i64 (a : Int), z] 40 true (some 0)) } :=
  vstore_one z25 h (by show 2 < 3; decide) hs
theorem Ot.sim {lo : Nat} {st : St} {x : V} {l : List Tk} (h : Ot lo st x l) : simV x = true := by cases h <;> rfl

variable [Memo] [NL]

theorem put_ok (gl : Gl) (st : St) (lo id : Nat) (s : S) (a n k : Nat) (out : V) (ts : List Tk) (hc : Cu st id s a out) (hid : id < lo) (hlo : lo ≤ st.ctr) (ho : Ot lo st out ts) (ha : a + n ≤ s.n) (hn : s.n < 1000000) (hts : ts.length < 900000) :
    ∃ v st', W Tryd.prog (.call gl 22 [.ptr id 0, .int .u8 (k : Int), .int .i64 (n : Int)]) st = .call (.val v st') ∧ PutR lo id s (a + n) (ts ++ [⟨k, s.cut a (a + n), a⟩]) st st' := by
  have f0 := field0 id
  have f1 := field1 id
  have f2 := field2 id
  refine call_ex (NL.no _ rfl _ _) Tryd.func22 rfl (by kernel_rfl) ?_
  repeat refine Does.seq ?_
  refine Does.draw (b := [0, 0, 2, 6, 14, 0, 0, 64, 192, 448, 0, 1024, 3072, 7168, 0, 16384, 49152, 114688, 0, 507904, 1048512, 0, 2097152, 6291456, 14680064, 33554400, 67108832, 134217726, 268435455, 536870911, 1073741823]) (l := [1, 2, 3, 4, 5, 6, 7, 8, 9, 10, 11, 12, 13, 14, 15, 16, 17, 18, 19, 20, 21, 22, 23, 24, 25, 26, 27, 0, 28, 29, 30]) (by kernel_rfl) (by kernel_rfl) (by kernel_rfl) ?_
  have hkt := (Keep.refl st).tick 31
  have hct := hc.keep hkt (by omega)
  have hot := ho.keep hkt
  have l0 := hct.l0
  have l1 := hct.l1
  have l2 := hct.l2
  have hvo := ho.veq
  have hw := wrap_add (n := a) (m := n) (by omega)
  have hsl := vslice_lohi (P := Tryd.prog) Tryd.underlying9 (s := s) (lo := a) (hi := a + n) (by omega) ha (k := .i64) (k' := .i64)
  have hbt := build_tok k a (s.cut a (a + n))
  have hbs := build_toks k a (s.cut a (a + n))
  have hall : ([.int .u8 (k : Int), .str (s.cut a (a + n)), .int .i64 (a : Int)] : List V).all oneC = true := rfl
  have hk1 : Keep st { ctr := st.ctr + 31, box := st.box.put (st.ctr + 26) (.cells [.int .u8 (k : Int), .str (s.cut a (a + n)), .int .i64 (a : Int)] 31 true (some 0)) } := hkt.put (Nat.le_add_right ..) _
  obtain ⟨z, st2, hap, hoz, hctr, hbox⟩ := Ot.app (m := [⟨k, s.cut a (a + n), a⟩]) (y := .ms (st.ctr + 26) 0 1 3 (some 1)) (Nat.le_trans hlo hk1.ctr) (ho.keep hk1) (src_one (x := ⟨k, s.cut a (a + n), a⟩) (by simp [Tr.get_put, Tk.cells]; rfl) _) (by simp; omega) (by simp)
  have hc2 : Cu st2 id s a out := by
    unfold Cu
    rw [hbox id hid, hk1.box id (by omega)]
    exact hc
  have hset := hc2.setOut hoz.one hoz.sim
  simp at hsl
  simp [sameIn, f0, f1, f2, l0, l1, l2, veq_str, veq_int, hvo, vbin_add, hw, hsl, evParts, hbt, valloc, hbs, hall, mkRef, vact, u25, hap, hset]
  have hc3 : Cu { st2 with box := st2.box.put id (.cells [.str s, .int .i64 (a : Int), z] 40 true (some 0)) } id s a z := Cu.at_put st2 id s a z
  have hoz3 : Ot lo { st2 with box := st2.box.put id (.cells [.str s, .int .i64 (a : Int), z] 40 true (some 0)) } z (ts ++ [⟨k, s.cut a (a + n), a⟩]) := hoz.put hid
  have hb3 : ∀ i, i < lo → i ≠ id → ({ st2 with box := st2.box.put id (.cells [.str s, .int .i64 (a : Int), z] 40 true (some 0)) } : St).box.get i = st.box.get i := fun i hi hne => by
    show (st2.box.put id _).get i = _
    rw [Tr.get_put, if_neg hne, hbox i hi, hk1.box i (by omega)]
  have hctr3 : st.ctr ≤ ({ st2 with box := st2.box.put id (.cells [.str s, .int .i64 (a : Int), z] 40 true (some 0)) } : St).ctr := by
    have := hk1.ctr
    show st.ctr ≤ st2.ctr
    omega
  revert hc3 hoz3 hb3 hctr3
  generalize ({ st2 with box := st2.box.put id (.cells [.str s, .int .i64 (a : Int), z] 40 true (some 0)) } : St) = st3
  intro hc3 hoz3 hb3 hctr3
  refine Does.region ?_
  have hset2 := hc3.set (a + n)
  simp at hset2
  simp [f1, hc3.l1, vbin_add, hw, vact, hset2]
  refine ⟨z, by simpa using Cu.at_put st3 id s (a + n) z, hoz3.put hid, hctr3, fun i hi hne => ?_⟩
  show (st3.box.put id _).get i = _
  rw [Tr.get_put, if_neg hne, hb3 i hi hne]
end Go.Vm
