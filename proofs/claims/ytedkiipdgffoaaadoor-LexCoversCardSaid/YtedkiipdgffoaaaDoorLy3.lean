/- Two tokens, compared. A slice of tokens of one's own that grows; Same. The cutter: blank, put, cut. The cutter: put, cut. The cutter: cut. -/
import Derived.Test.YtedkiipdgffoaaaDoorLy2
namespace Go.Vm
open Go Go.Proofs Go.Lx

theorem unSem_bind_eq {α β : Type} (P : Program) : ∀ (s : Sem α) (f : α → Sem β), unSem P (s >>= f) = (unSem P s).bind (fun a => unSem P (f a)) := by
  intro s
  induction s with
  | pure a => intro f; rfl
  | program k ih => intro f; exact ih P f
  | mark m k ih => intro f; exact ih f
  | _ => intro f; rfl

theorem unSem_pure {α : Type} (P : Program) (a : α) : unSem P (pure a) = some a := rfl
theorem unSem_program (P : Program) : unSem P program = some P := rfl
theorem unSem_underlying {P : Program} {t : TypeId} {d : TypeDesc} (h : P.underlying t = some d) : unSem P (underlying t) = some d := by
  simp [underlying, unSem_bind_eq, unSem_program, h, unSem_pure]
theorem unSem_isAgg {P : Program} {t : TypeId} {b : Bool} (h : isAggT P t = some b) : unSem P (isAgg t) = some b := by
  unfold isAggT at h
  cases hu : P.underlying t with
  | none => rw [hu] at h; cases h
  | some d =>
    rw [hu] at h
    simp only [isAgg, unSem_bind_eq, unSem_underlying hu, Option.bind_some]
    cases d <;> simp_all [unSem_pure]

theorem unSem_part {P : Program} {t : TypeId} {cs : Array Value} {off : Nat} {v : Value} (h : isAggT P t = some false) (hv : cs[off]? = some v) : unSem P (part t cs off) = some v := by
  simp [part, unSem_bind_eq, unSem_isAgg h, hv, unSem_pure]

theorem eq_int {P : Program} {d : Nat} {t : TypeId} {k k' : IntKind} {a b : Int} (h : P.underlying t = some (.int k')) : unSem P (Op.equalIn (d + 1) t (.int k a) (.int k b)) = some (a == b) := by
  simp only [Op.equalIn, unSem_bind_eq, unSem_underlying h, Option.bind_some]
  simp [unSem_pure]
theorem eq_str {P : Program} {d : Nat} {t : TypeId} {a b : ByteArray} (h : P.underlying t = some .string) : unSem P (Op.equalIn (d + 1) t (.string a) (.string b)) = some (a == b) := by
  simp only [Op.equalIn, unSem_bind_eq, unSem_underlying h, Option.bind_some]
  simp [unSem_pure]

theorem bytes_beq (s t : S) : ((⟨⟨s.toList⟩⟩ : ByteArray) == ⟨⟨t.toList⟩⟩) = s.same t := by
  rw [S.same_eq]
  show ((⟨s.toList⟩ : Array UInt8) == ⟨t.toList⟩) = _
  simp

theorem tok_neq (kk : Bool) (k1 k2 p1 p2 : Int) (s1 s2 : S) : vbin Tryd.prog kk .neq 31 (.agg [.int .u8 k1, .str s1, .int .i64 p1]) (.agg [.int .u8 k2, .str s2, .int .i64 p2]) = some (.bool (!(decide (k1 = k2) && s1.same s2 && decide (p1 = p2)))) := by
  have hg : Tryd.prog.eqGuardType Tryd.prog.depth 31 = false := by kernel_rfl
  have hs : Tryd.prog.stoodInHeld 31 = false := by kernel_rfl
  have a5 : isAggT Tryd.prog 5 = some false := by kernel_rfl
  simp only [vbin, viaSem, traverse, ofV]
  have h2 : ∀ a b : Value, (a = .agg #[.int .u8 k1, .string ⟨⟨s1.toList⟩⟩, .int .i64 p1]) → b = .agg #[.int .u8 k2, .string ⟨⟨s2.toList⟩⟩, .int .i64 p2] → unSem Tryd.prog (do eqGuard .neq 31 (opK kk) (.tmp 0) a b; binOp .neq 31 a b) = some (.bool (!(decide (k1 = k2) && s1.same s2 && decide (p1 = p2)))) := by
    rintro a b rfl rfl
    have h3 : unSem Tryd.prog (Op.equal 31 (.agg #[.int .u8 k1, .string ⟨⟨s1.toList⟩⟩, .int .i64 p1]) (.agg #[.int .u8 k2, .string ⟨⟨s2.toList⟩⟩, .int .i64 p2])) = some (decide (k1 = k2) && s1.same s2 && decide (p1 = p2)) := by
      unfold Op.equal
      show unSem Tryd.prog (Op.equalIn (9999 + 1) 31 _ _) = _
      rw [Op.equalIn]
      simp only [unSem_bind_eq, unSem_underlying Tryd.underlying31, Option.bind_some, unSem_program, hs]
      have a9' : isAggT Tryd.prog 9 = some false := by kernel_rfl
      have a3' : isAggT Tryd.prog 3 = some false := by kernel_rfl
      have q1 : unSem Tryd.prog (part 5 #[.int .u8 k1, .string ⟨⟨s1.toList⟩⟩, .int .i64 p1] 0) = some (.int .u8 k1) := unSem_part a5 rfl
      have q2 : unSem Tryd.prog (part 5 #[.int .u8 k2, .string ⟨⟨s2.toList⟩⟩, .int .i64 p2] 0) = some (.int .u8 k2) := unSem_part a5 rfl
      have q3 : unSem Tryd.prog (part 9 #[.int .u8 k1, .string ⟨⟨s1.toList⟩⟩, .int .i64 p1] 1) = some (.string ⟨⟨s1.toList⟩⟩) := unSem_part a9' rfl
      have q4 : unSem Tryd.prog (part 9 #[.int .u8 k2, .string ⟨⟨s2.toList⟩⟩, .int .i64 p2] 1) = some (.string ⟨⟨s2.toList⟩⟩) := unSem_part a9' rfl
      have q5 : unSem Tryd.prog (part 3 #[.int .u8 k1, .string ⟨⟨s1.toList⟩⟩, .int .i64 p1] 2) = some (.int .i64 p1) := unSem_part a3' rfl
      have q6 : unSem Tryd.prog (part 3 #[.int .u8 k2, .string ⟨⟨s2.toList⟩⟩, .int .i64 p2] 2) = some (.int .i64 p2) := unSem_part a3' rfl
      have e1 : unSem Tryd.prog (Op.equalIn 9999 5 (.int .u8 k1) (.int .u8 k2)) = some (k1 == k2) := eq_int (d := 9998) Tryd.underlying5
      have e2 : unSem Tryd.prog (Op.equalIn 9999 9 (.string ⟨⟨s1.toList⟩⟩) (.string ⟨⟨s2.toList⟩⟩)) = some (s1.same s2) := by rw [← bytes_beq]; exact eq_str (d := 9998) Tryd.underlying9
      have e3 : unSem Tryd.prog (Op.equalIn 9999 3 (.int .i64 p1) (.int .i64 p2)) = some (p1 == p2) := eq_int (d := 9998) Tryd.underlying3
      rw [if_neg (by decide)]
      simp only [List.forIn_toArray, List.forIn_cons, List.forIn_nil]
      have hn1 : ("Kind" ≠ "_") = True := by decide
      have hn2 : ("Text" ≠ "_") = True := by decide
      have hn3 : ("At" ≠ "_") = True := by decide
      simp only [unSem_bind_eq, hn1, hn2, hn3, if_true, q1, q2, q3, q4, q5, q6, e1, e2, e3, Option.bind_some]
      generalize g1 : (k1 == k2) = b1
      generalize g2 : s1.same s2 = b2
      generalize g3 : (p1 == p2) = b3
      have g1' : decide (k1 = k2) = b1 := by rw [← g1]; rfl
      have g3' : decide (p1 = p2) = b3 := by rw [← g3]; rfl
      rw [g1', g3']
      rw [g1] at e1
      rw [g2] at e2
      rw [g3] at e3
      cases b1 <;> cases b2 <;> cases b3 <;> simp [unSem_bind_eq, unSem_pure, q1, q2, q3, q4, q5, q6, e1, e2, e3]
    simp only [unSem_bind_eq, eqGuard, unSem_program, hg, Option.bind_some, binOp, h3]
    simp [unSem_bind_eq, unSem_program, hg, unSem_pure]
  have h4 := h2 _ _ rfl rfl
  show (match unSem Tryd.prog (do eqGuard .neq 31 (opK kk) (.tmp 0) (.agg #[.int .u8 k1, .string ⟨⟨s1.toList⟩⟩, .int .i64 p1]) (.agg #[.int .u8 k2, .string ⟨⟨s2.toList⟩⟩, .int .i64 p2]); binOp .neq 31 (.agg #[.int .u8 k1, .string ⟨⟨s1.toList⟩⟩, .int .i64 p1]) (.agg #[.int .u8 k2, .string ⟨⟨s2.toList⟩⟩, .int .i64 p2])) with
    | some v => toV 6 v
    | none => none) = _
  rw [h4]
  rfl
end Go.Vm
--  rw [show (fun l : List Value => (do eqGuard .neq 31 (opK kk) (.tmp 0) (l.getD 0 undef) (l.getD 1 undef); binOp .neq 31 (l.getD 0 undef) (l.getD 1 undef))) = _ from rfl]

namespace Go.Vm
open Go Go.Proofs Go.Lx
attribute [local simp] Oks xOps vwanted isDefer vop kindOf vpure ev evs toV andThen inBlock atTo_some Fr.dsTo Fr.glTo Fr.toNone initFr_at initFr_ds initFr_gl veff traverse tupled vresult V.undef evOpt xDraw xStep

/-- a token, as the program has it -/
structure Tk where
  k : Nat
  t : S
  p : Nat

def Tk.cells (x : Tk) : List V := [.int .u8 (x.k : Int), .str x.t, .int .i64 (x.p : Int)]
def Tk.tok (x : Tk) : Tok := ⟨x.k, x.t.toList, x.p⟩
def toksV (l : List Tk) : List V := l.flatMap Tk.cells

theorem toksV_len (l : List Tk) : (toksV l).length = l.length * 3 := by
  induction l with
  | nil => rfl
  | cons a l ih => simp only [toksV, List.flatMap_cons, List.length_append] at ih ⊢; rw [ih]; simp [Tk.cells]; omega
theorem toksV_app (l m : List Tk) : toksV (l ++ m) = toksV l ++ toksV m := by simp [toksV]
theorem toksV_one (l : List Tk) : (toksV l).all oneC = true := by
  induction l with
  | nil => rfl
  | cons a l ih => simp only [toksV, List.flatMap_cons, List.all_append] at ih ⊢; rw [ih]; rfl

theorem toksV_sub : ∀ (l : List Tk) (i : Nat), i < l.length → sub (toksV l) (i * 3) 3 = (l.getD i ⟨0, ⟨0, 0⟩, 0⟩).cells
  | [], i, h => by simp at h
  | a :: l, 0, _ => rfl
  | a :: l, i + 1, h => by
    have ih := toksV_sub l i (by simpa using h)
    have e : toksV (a :: l) = a.cells ++ toksV l := rfl
    have h3 : a.cells.length = 3 := rfl
    unfold sub at ih ⊢
    rw [e, show (i + 1) * 3 = a.cells.length + i * 3 by rw [h3]; omega, List.drop_append]
    simp only [Nat.add_sub_cancel_left, List.drop_of_length_le (Nat.le_add_right ..), List.nil_append]
    rw [ih]
    rfl

/-- a slice of tokens in memory of its own, from a number on -/
inductive Ot (lo : Nat) (st : St) : V → List Tk → Prop
  | nils : Ot lo st .nils []
  | ms (id : Nat) (cap : Option Nat) (fl : Bool) (l : List Tk) (hb : st.box.get id = some (.cells (toksV l) 31 fl (some 0))) (h1 : lo ≤ id) (h2 : id < st.ctr) (hc : cap = none ∨ cap = some l.length) : Ot lo st (.ms id 0 l.length 3 cap) l

theorem Ot.keep {lo : Nat} {st st' : St} (h : Keep st st') {x : V} {l : List Tk} (hv : Ot lo st x l) : Ot lo st' x l := by
  cases hv with
  | nils => exact .nils
  | ms id cap fl l hb h1 h2 hc => exact .ms id cap fl l (by rw [h.box id h2]; exact hb) h1 (Nat.lt_of_lt_of_le h2 h.ctr) hc

theorem Ot.one {lo : Nat} {st : St} {x : V} {l : List Tk} (h : Ot lo st x l) : oneC x = true := by cases h <;> rfl
theorem Ot.veq {lo : Nat} {st : St} {x : V} {l : List Tk} (h : Ot lo st x l) : veq 300 x x = true := by cases h <;> simp [Go.Vm.veq]

theorem Ot.weaken {lo lo' : Nat} (h : lo' ≤ lo) {st : St} {x : V} {l : List Tk} (hv : Ot lo st x l) : Ot lo' st x l := by
  cases hv with
  | nils => exact .nils
  | ms id cap fl l hb h1 h2 hc => exact .ms id cap fl l hb (Nat.le_trans h h1) h2 hc

theorem Ot.put {lo : Nat} {st : St} {x : V} {l : List Tk} {id : Nat} (hid : id < lo) {b : Bx} (hv : Ot lo st x l) : Ot lo { st with box := st.box.put id b } x l := by
  cases hv with
  | nils => exact .nils
  | ms i cap fl l hb h1 h2 hc => exact .ms i cap fl l (by rw [Tr.get_put, if_neg (by omega)]; exact hb) h1 h2 hc

theorem u25 : Tryd.prog.underlying 25 = some (.slice 31) := Tryd.underlying25
theorem z31 : sizeT Tryd.prog 31 = some 3 := by kernel_rfl
theorem a31 : isAggT Tryd.prog 31 = some true := by kernel_rfl
theorem z25 : sizeT Tryd.prog 25 = some 1 := by kernel_rfl
theorem a25 : isAggT Tryd.prog 25 = some false := by kernel_rfl

theorem Ot.cells {lo : Nat} {st : St} {x : V} {l : List Tk} (hv : Ot lo st x l) : sliceCells st 3 x = some (toksV l, l.length) := by
  cases hv with
  | nils => rfl
  | ms id cap fl l hb h1 h2 hc =>
    have e : Nat.ble (0 + l.length * 3) (toksV l).length = true := Nat.ble_eq_true_of_le (by rw [toksV_len]; omega)
    simp only [sliceCells, hb, e]
    congr 2
    unfold sub
    rw [List.drop_zero, List.take_of_length_le (by rw [toksV_len]; omega)]

theorem Ot.len {lo : Nat} {st : St} {x : V} {l : List Tk} (hv : Ot lo st x l) : vlen Tryd.prog 25 x = some (.int .i64 (l.length : Int)) := by
  cases hv <;> simp [vlen, u25]

theorem Ot.get {lo : Nat} {st : St} {x : V} {l : List Tk} (hv : Ot lo st x l) {i : Nat} (hi : i < l.length) {k : IntKind} :
    ∃ a, vindexAddr Tryd.prog 25 x (.int k (i : Int)) = some a ∧ vload Tryd.prog st 31 a = some (.agg (l.getD i ⟨0, ⟨0, 0⟩, 0⟩).cells) ∧ ∃ id, a = .ptr id (i * 3) ∧ lo ≤ id := by
  have hb : Nat.blt i l.length = true := by rw [blt_dec]; exact decide_eq_true hi
  cases hv with
  | nils => simp at hi
  | ms id cap fl l hbx h1 h2 hc =>
    refine ⟨.ptr id (0 + i * 3), by simp only [vindexAddr, u25, asNat_cast, z31, hb, Nat.beq_refl], ?_, id, by simp, h1⟩
    have e : Nat.ble (i * 3 + 3) (toksV l).length = true := Nat.ble_eq_true_of_le (by rw [toksV_len]; omega)
    simp only [vload, hbx, vpart, a31, z31, Nat.zero_add, e, toksV_sub l i hi]

/-- append(x, y...): what is below 'lo' stays -/
theorem Ot.app {lo : Nat} {st : St} {x y : V} {l m : List Tk} (hlo : lo ≤ st.ctr) (hx : Ot lo st x l) (hy : srcCells st 3 y = some (toksV m, m.length)) (hl : l.length + m.length < 1000000) (hm : m ≠ []) :
    ∃ z st', vappend Tryd.prog st 25 x y = some (z, st') ∧ Ot lo st' z (l ++ m) ∧ st.ctr ≤ st'.ctr ∧ (∀ i, i < lo → st'.box.get i = st.box.get i) := by
  have i31 : Tryd.prog.info? 31 = some Tryd.t31 := by kernel_rfl
  have t3 : Tryd.t31.size = 3 := rfl
  have tb : Tryd.t31.bytes = 32 := rfl
  have zv : zeroT Tryd.prog 31 = some (.agg [.int .u8 0, .str ⟨0, 0⟩, .int .i64 0]) := by kernel_rfl
  have hold : sliceCells st 3 x = some (toksV l, l.length) := hx.cells
  have hm0 : Nat.beq m.length 0 = false := by
    cases m with
    | nil => exact absurd rfl hm
    | cons a b => rfl
  have hml : 0 < m.length := List.length_pos_iff.2 hm
  have e1 : Nat.ble ((l.length + m.length) * Tryd.t31.bytes) maxBytes = true := Nat.ble_eq_true_of_le (by rw [tb]; simp only [maxBytes]; omega)
  have e2 : Nat.ble (l.length + m.length) maxBytes = true := Nat.ble_eq_true_of_le (by simp only [maxBytes]; omega)
  have e3 : (toksV m).all oneC = true := toksV_one m
  have e4 : Nat.beq (V.agg [.int .u8 0, .str ⟨0, 0⟩, .int .i64 0]).cells.length 3 = true := rfl
  have e5 : Nat.beq 3 0 = false := rfl
  have fresh : ∀ (bx : Tr Bx), Ot st.ctr { ctr := st.ctr + 1, box := bx.put st.ctr (.cells (toksV l ++ toksV m) 31 false (some 0)) } (.ms st.ctr 0 (l.length + m.length) 3 none) (l ++ m) := fun bx => by
    have := Ot.ms (lo := st.ctr) (st := { ctr := st.ctr + 1, box := bx.put st.ctr (.cells (toksV (l ++ m)) 31 false (some 0)) }) st.ctr none false (l ++ m) (by simp [Tr.get_put]) (Nat.le_refl _) (Nat.lt_succ_self _) (.inl rfl)
    simpa [toksV_app] using this
  cases hx with
  | nils =>
    refine ⟨.ms st.ctr 0 ([].length + m.length) 3 none, { ctr := st.ctr + 1, box := st.box.put st.ctr (.cells (toksV [] ++ toksV m) 31 false (some 0)) }, ?_, (fresh st.box).weaken hlo, Nat.le_succ _, fun i hi => by rw [Tr.get_put, if_neg (by omega)]⟩
    simp only [vappend, u25, i31, zv, t3, hy, hold, hm0, e1, e2, e3, e4, e5]
    rfl
  | ms id cap fl l hb h1 h2 hc =>
    rcases hc with rfl | rfl
    · have e6 : Nat.ble (0 + (l.length + m.length) * 3) (toksV l).length = false := by
        cases h : Nat.ble (0 + (l.length + m.length) * 3) (toksV l).length with
        | false => rfl
        | true =>
          have := Nat.le_of_ble_eq_true h
          rw [toksV_len] at this; omega
      have e7 : Nat.ble 0 (0 + l.length * 3) = true := Nat.ble_eq_true_of_le (Nat.zero_le _)
      refine ⟨.ms st.ctr 0 (l.length + m.length) 3 none, { ctr := st.ctr + 1, box := (st.box.del id).put st.ctr (.cells (toksV l ++ toksV m) 31 false (some 0)) }, ?_, (fresh _).weaken hlo, Nat.le_succ _, fun i hi => by rw [Tr.get_put, if_neg (by omega), Tr.get_del, if_neg (by omega)]⟩
      simp only [vappend, u25, i31, zv, t3, hy, hold, hm0, e1, e2, e3, e4, e5, hb, roomOf, e6, fzOk, e7, Nat.beq_refl, Bool.and_self]
      simp [fzSub]
    · have e6 : Nat.ble (l.length + m.length) l.length = false := by
        cases h : Nat.ble (l.length + m.length) l.length with
        | false => rfl
        | true =>
          have := Nat.le_of_ble_eq_true h
          omega
      refine ⟨.ms st.ctr 0 (l.length + m.length) 3 none, { ctr := st.ctr + 1, box := st.box.put st.ctr (.cells (toksV l ++ toksV m) 31 false (some 0)) }, ?_, (fresh _).weaken hlo, Nat.le_succ _, fun i hi => by rw [Tr.get_put, if_neg (by omega)]⟩
      simp only [vappend, u25, i31, zv, t3, hy, hold, hm0, e1, e2, e3, e4, e5, hb, roomOf, e6, Nat.beq_refl, Bool.and_self]

theorem build_tok (k p : Int) (s : S) : vbuild Tryd.prog 31 [(0, .int .u8 k), (1, .str s), (2, .int .i64 p)] = some (.agg [.int .u8 k, .str s, .int .i64 p]) := by kernel_rfl
theorem build_toks (k p : Int) (s : S) : vbuildSlice Tryd.prog 25 1 [(0, .agg [.int .u8 k, .str s, .int .i64 p])] = some ([.int .u8 k, .str s, .int .i64 p], 31, 3) := by kernel_rfl

/-- the slice of one token that an append is handed -/
theorem src_one {st : St} {id : Nat} {x : Tk} {fl : Bool} (h : st.box.get id = some (.cells x.cells 31 fl (some 0))) (cap : Option Nat) : srcCells st 3 (.ms id 0 1 3 cap) = some (toksV [x], [x].length) := by
  simp only [srcCells, sliceCells, h]
  rfl

theorem Tk.tok_eq {x y : Tk} : (decide ((x.k : Int) = (y.k : Int)) && x.t.same y.t && decide ((x.p : Int) = (y.p : Int))) = decide (x.tok = y.tok) := by
  rw [S.same_eq, Bool.eq_iff_iff]
  simp only [Tk.tok, Bool.and_eq_true, decide_eq_true_eq, beq_iff_eq, Tok.mk.injEq, and_assoc]
  exact and_congr (by omega) (and_congr Iff.rfl (by omega))

variable [Memo] [NL]

theorem same_ok (gl : Gl) (st : St) (lo lo' : Nat) (x y : V) (l m : List Tk) (hx : Ot lo st x l) (hy : Ot lo' st y m) (hl : l.length < 1000000) :
    ∃ v st', W Tryd.prog (.call gl 13 [x, y]) st = .call (.val v st') ∧ v = .bool (decide (l.map Tk.tok = m.map Tk.tok)) ∧ Keep st st' := by
  have lx := hx.len
  have ly := hy.len
  refine call_ex (NL.no _ rfl _ _) Tryd.func13 rfl (by kernel_rfl) ?_
  repeat refine Does.seq ?_
  refine Does.region ?_
  simp
  repeat refine Does.seq ?_
  refine Does.region ?_
  by_cases hlm : l.length = m.length
  rotate_left
  · have hlm' : ¬ (l.length : Int) = (m.length : Int) := by omega
    have hne : ¬ l.map Tk.tok = m.map Tk.tok := fun h => hlm (by simpa using congrArg List.length h)
    simp [lx, ly, vbin_neq, hlm']
    repeat refine Does.seq ?_
    refine Does.condT (by simp) ?_
    repeat refine Does.seq ?_
    refine Does.region ?_
    simp
    refine Does.ret ?_
    simp [hne, Keep.refl]
  · have hlm' : (l.length : Int) = (m.length : Int) := by omega
    simp [lx, ly, vbin_neq, hlm']
    repeat refine Does.seq ?_
    refine Does.condF (by simp) ?_
    refine Does.skip ?_
    simp
    repeat refine Does.seq ?_
    refine Does.region ?_
    simp
    refine Does.mono (Q := fun e fr' st' => Keep st st' ∧ fr'.ds = [] ∧ ((e = AE.ret ∧ Fr.at fr' 4 = .bool false ∧ l.map Tk.tok ≠ m.map Tk.tok) ∨ (e = AE.normal ∧ l.map Tk.tok = m.map Tk.tok))) ?loop ?tail
    case tail =>
      rintro e fr' st' ⟨hk, hds, ⟨rfl, h4, hne⟩ | ⟨rfl, heq⟩⟩
      · simp [hds, hk, h4, hne]
      · simp
        repeat refine Does.seq ?_
        refine Does.region ?_
        simp
        refine Does.ret ?_
        simp [hds, hk, heq]
    case loop =>
      refine Does.block (Does.up l.length (fun i fr st' => Keep st st' ∧ fr.ds = [] ∧ Fr.at fr 0 = x ∧ Fr.at fr 1 = y ∧ Fr.at fr 5 = .int .i64 (i : Int) ∧ i ≤ l.length ∧ (l.map Tk.tok).take i = (m.map Tk.tok).take i) 0 ?init ?bound ?step)
      case init => exact ⟨.refl st, by simp, by simp, by simp, by simp, Nat.zero_le _, by simp⟩
      case bound => exact fun i fr st' h => h.2.2.2.2.2.1
      case step =>
        rintro i fr st' ⟨hk, hds, h0, h1, h5, hi, ht⟩
        repeat refine Does.seq ?_
        refine Does.region ?_
        by_cases hlt : i < l.length
        · have hlt' : (i : Int) < (l.length : Int) := by omega
          have hltm : (i : Int) < (m.length : Int) := by omega
          simp [h0, h5, lx, vbin_lss, hlt']
          repeat refine Does.seq ?_
          refine Does.condT (by simp) ?_
          refine Does.skip ?_
          simp
          repeat refine Does.seq ?_
          refine Does.block ?_
          repeat refine Does.seq ?_
          refine Does.draw (b := [0, 0, 3, 7, 0, 0, 48, 112, 255]) (l := [0, 1, 2, 3, 4, 5, 6, 7, 8]) (by kernel_rfl) (by kernel_rfl) (by kernel_rfl) ?_
          have hkt := hk.tick 9
          obtain ⟨p, g1, g2, _⟩ := (hx.keep hkt).get hlt (k := .i64)
          obtain ⟨q, g3, g4, _⟩ := (hy.keep hkt).get (show i < m.length by omega) (k := .i64)
          generalize hex : l.getD i ⟨0, ⟨0, 0⟩, 0⟩ = ex at g2
          generalize hey : m.getD i ⟨0, ⟨0, 0⟩, 0⟩ = ey at g4
          have hne := tok_neq false ex.k ey.k ex.p ey.p ex.t ey.t
          rw [Tk.tok_eq] at hne
          have hvx : ∀ e : Tk, veq 300 (.agg e.cells) (.agg e.cells) = true := fun e => by simp [Tk.cells, veq, veqs]
          simp only [Tk.cells] at g2 g4 hvx
          have hvx1 := hvx ex
          have hvx2 := hvx ey
          simp [sameIn, h0, h1, h5, g1, g2, g3, g4, hvx1, hvx2, isK, hne]
          repeat refine Does.seq ?_
          have gx : (l.map Tk.tok)[i]? = some ex.tok := by
            rw [List.getElem?_map, List.getElem?_eq_getElem hlt, ← hex, List.getD_eq_getElem?_getD, List.getElem?_eq_getElem hlt]; rfl
          have gy : (m.map Tk.tok)[i]? = some ey.tok := by
            rw [List.getElem?_map, List.getElem?_eq_getElem (by omega), ← hey, List.getD_eq_getElem?_getD, List.getElem?_eq_getElem (by omega)]; rfl
          by_cases heq : ex.tok = ey.tok
          · refine Does.condF (by simp [heq]) ?_
            refine Does.skip ?_
            simp
            refine Does.region ?_
            have hw : IntKind.i64.wrap ((i : Int) + 1) = ((i + 1 : Nat) : Int) := wrap1 (by omega)
            simp at hw
            simp [h5, vbin_add, hw]
            refine ⟨i + 1, by omega, hkt, hds, h0, h1, by simp, by omega, ?_⟩
            rw [List.take_add_one, List.take_add_one, ht, gx, gy, heq]
          · refine Does.condT (by simp [heq]) ?_
            repeat refine Does.seq ?_
            refine Does.region ?_
            simp
            refine Does.ret ?_
            simp [hds, hkt]
            intro h
            rw [h, gy] at gx
            exact heq (Option.some.inj gx).symm
        · have hlt' : ¬ (i : Int) < (l.length : Int) := by omega
          simp [h0, h5, lx, vbin_lss, hlt']
          repeat refine Does.seq ?_
          refine Does.condF (by simp) ?_
          refine Does.exit ?_
          simp [hds, hk]
          rwa [List.take_of_length_le (by simp; omega), List.take_of_length_le (by simp; omega)] at ht
end Go.Vm

namespace Go.Vm
open Go Go.Proofs Go.Lx
attribute [local simp] Oks xOps vwanted isDefer vop kindOf vpure ev evs toV andThen inBlock atTo_some Fr.dsTo Fr.glTo Fr.toNone initFr_at initFr_ds initFr_gl veff traverse tupled vresult V.undef evOpt xDraw xStep

/-- all but one box stays -/
structure But (id : Nat) (st st' : St) : Prop where
  ctr : st.ctr ≤ st'.ctr
  box : ∀ i, i < st.ctr → i ≠ id → st'.box.get i = st.box.get i

theorem But.keep {id : Nat} {a b : St} (h : Keep a b) : But id a b := ⟨h.ctr, fun i hi _ => h.box i hi⟩
theorem But.refl (id : Nat) (st : St) : But id st st := ⟨Nat.le_refl _, fun _ _ _ => rfl⟩
theorem But.trans {id : Nat} {a b c : St} (h : But id a b) (k : But id b c) : But id a c := ⟨Nat.le_trans h.ctr k.ctr, fun i hi hn => (k.box i (Nat.lt_of_lt_of_le hi h.ctr) hn).trans (h.box i hi hn)⟩
theorem But.put {id : Nat} {a b : St} (h : But id a b) (x : Bx) : But id a { b with box := b.box.put id x } := ⟨h.ctr, fun i hi hn => by rw [Tr.get_put, if_neg (by omega)]; exact h.box i hi hn⟩
theorem Ot.but {lo id : Nat} {st st' : St} (h : But id st st') (hid : id < lo) {x : V} {l : List Tk} (hv : Ot lo st x l) : Ot lo st' x l := by
  cases hv with
  | nils => exact .nils
  | ms i cap fl l hb h1 h2 hc => exact .ms i cap fl l (by rw [h.box i h2 (by omega)]; exact hb) h1 (Nat.lt_of_lt_of_le h2 h.ctr) hc

/-- the place is set -/
theorem Cu.set {st : St} {id : Nat} {s : S} {a : Nat} {out : V} (h : Cu st id s a out) (b : Nat) : vstore Tryd.prog st 3 (.ptr id 1) (.int .i64 (b : Int)) = some { st with box := st.box.put id (.cells [.str s, .int .i64 (b : Int), out] 40 true (some 0)) } :=
  vstore_one z3 h (by show 1 < 3; decide) rfl
theorem Cu.at_put (st : St) (id : Nat) (s : S) (b : Nat) (out : V) : Cu { st with box := st.box.put id (.cells [.str s, .int .i64 (b : Int), out] 40 true (some 0)) } id s b out := by simp [Cu, Tr.get_put]

theorem veq_str (s : S) : veq 300 (.str s) (.str s) = true := by simp [veq]
theorem veq_int (k : IntKind) (n : Int) : veq 300 (.int k n) (.int k n) = true := by simp [veq]

theorem takeWhile_all {p : UInt8 → Bool} : ∀ {l : List UInt8}, (∀ x ∈ l, p x = true) → l.takeWhile p = l
  | [], _ => rfl
  | a :: l, h => by
    rw [List.takeWhile_cons_of_pos (h a (List.mem_cons_self ..)), takeWhile_all fun x hx => h x (List.mem_cons_of_mem _ hx)]

theorem eol_index (l : List UInt8) : (0 ≤ Lib.indexByte l 10 → Lib.indexByte l 10 = (eolL l : Int)) ∧ (Lib.indexByte l 10 < 0 → eolL l = l.length) := by
  rw [indexByte_eq]
  by_cases h : (10 : UInt8) ∈ l
  · rw [if_pos h]
    exact ⟨fun _ => rfl, fun h2 => by omega⟩
  · rw [if_neg h]
    refine ⟨fun h2 => by omega, fun _ => ?_⟩
    unfold eolL
    congr 1
    refine takeWhile_all fun b hb => ?_
    simp only [decide_eq_true_eq, ne_eq]
    intro h2
    subst h2
    exact h hb

/-- no gap stands there -/
def NoGap (b : UInt8) (r : List UInt8) : Prop := ¬ (b = 32 ∨ b = 9) ∧ ¬ [92, 10].isPrefixOf (b :: r) = true ∧ b ≠ 35
/-- what blank comes to -/
def BlankR (id : Nat) (s : S) (a : Nat) (out : V) (b : UInt8) (r : List UInt8) (st : St) (v : V) (st' : St) : Prop :=
  ∃ ok, v = .bool ok ∧ But id st st' ∧
    ((ok = true ∧ ∃ n, stepL b r = .gap n ∧ Cu st' id s (a + n) out) ∨ (ok = false ∧ Cu st' id s a out ∧ NoGap b r))

variable [Memo] [NL]

theorem blank_ok (gl : Gl) (st : St) (id : Nat) (s : S) (a : Nat) (out : V) (hc : Cu st id s a out) (hid : id < st.ctr) (ha : a < s.n) (hn : s.n < 1000000) (b : UInt8) (r : List UInt8) (hbr : s.toList.drop a = b :: r) :
    ∃ v st', W Tryd.prog (.call gl 21 [.ptr id 0]) st = .call (.val v st') ∧ BlankR id s a out b r st v st' := by
  have hk16 : callable Tryd.prog 16 = true := by kernel_rfl
  have hk25 : callable Tryd.prog 25 = true := by kernel_rfl
  have f0 := field0 id
  have f1 := field1 id
  have hsl := vslice_lo (P := Tryd.prog) (k := .i64) Tryd.underlying9 (s := s) (lo := a) (by omega)
  have hR : (s.cut a s.n).toList = b :: r := by rw [rest_toList s (by omega), hbr]
  have hRn : (s.cut a s.n).n = s.n - a := rfl
  generalize s.cut a s.n = R at hsl hR hRn
  have hR0 : 0 < R.n := by omega
  have hb : b = UInt8.ofNat (R.at 0) := by
    have := R.toList_at hR0
    rw [hR] at this
    simpa using this
  have hb0 := R.at_lt 0
  have hix := vindex_str (P := Tryd.prog) (k := .i64) Tryd.underlying9 hR0
  simp only [Int.ofNat_zero, Int.natCast_zero, Int.cast_ofNat_Int] at hix
  refine call_ex (NL.no _ rfl _ _) Tryd.func21 rfl (by kernel_rfl) ?_
  repeat refine Does.seq ?_
  refine Does.region ?_
  simp
  repeat refine Does.seq ?_
  refine Does.draw (b := [0, 1, 3, 7, 0, 16, 48, 112, 255, 511]) (l := [0, 1, 2, 3, 4, 5, 6, 7, 8, 9]) (by kernel_rfl) (by kernel_rfl) (by kernel_rfl) ?_
  have hkt := (Keep.refl st).tick 10
  have hct := hc.keep hkt hid
  have hbt : But id st { st with ctr := st.ctr + 10 } := .keep hkt
  have l0 := hct.l0
  have l1 := hct.l1
  simp [sameIn, f0, f1, l0, l1, veq_str, veq_int, hsl]
  clear l0 l1
  revert hct hbt
  generalize ({ ctr := st.ctr + 10, box := st.box } : St) = st1
  intro hct hbt
  have l0 := hct.l0
  have l1 := hct.l1
  repeat refine Does.seq ?_
  refine Does.mono (Q := fun e fr' st' => But id st st' ∧ fr'.ds = [] ∧ ((e = AE.normal ∧ ∃ n, stepL b r = .gap n ∧ Cu st' id s (a + n) out) ∨ (e = AE.ret ∧ Fr.at fr' 2 = .bool false ∧ Cu st' id s a out ∧ NoGap b r))) ?sw ?tail
  case tail =>
    rintro e fr' st' ⟨hbb, hds, ⟨rfl, n, hs, hcu⟩ | ⟨rfl, h2, hcu, h3⟩⟩
    · simp
      repeat refine Does.seq ?_
      refine Does.region ?_
      simp
      refine Does.ret ?_
      simp [hds]
      exact ⟨true, rfl, hbb, .inl ⟨rfl, n, hs, hcu⟩⟩
    · simp [hds, h2]
      exact ⟨false, rfl, hbb, .inr ⟨rfl, hcu, h3⟩⟩
  case sw =>
    refine Does.block ?_
    repeat refine Does.seq ?_
    refine Does.region ?_
    have go : ∀ n : Nat, a + n ≤ s.n → IntKind.i64.wrap ((a : Int) + (n : Int)) = ((a + n : Nat) : Int) := fun n h => wrap_add (by omega)
    by_cases hs1 : R.at 0 = 32 ∨ R.at 0 = 9
    · have hsb : b = 32 ∨ b = 9 := by
        rw [hb]
        rcases hs1 with h | h <;> rw [h]
        · exact .inl rfl
        · exact .inr rfl
      have w1 := go 1 (by omega)
      have hset := hct.set (a + 1)
      simp at w1 hset
      have hstep : stepL b r = .gap 1 := by simp [stepL, hsb]
      rcases hs1 with h | h
      all_goals
        have h' : (R.at 0 : Int) = _ := congrArg _ h
        simp [hix, vbin_eql, h']
        repeat refine Does.seq ?_
        refine Does.condT (by simp) ?_
        refine Does.region ?_
        simp [f1, l1, vbin_add, w1, vact, hset]
        exact ⟨by simpa using hbt.put _, 1, hstep, by simpa using Cu.at_put st1 id s (a + 1) out⟩
    · have hsb : ¬ (b = 32 ∨ b = 9) := by
        rw [hb]
        rintro (h | h)
        · exact hs1 (.inl ((byte_eq hb0 (by decide)).1 h))
        · exact hs1 (.inr ((byte_eq hb0 (by decide)).1 h))
      have g1 : ¬ (R.at 0 : Int) = 32 := by omega
      have g2 : ¬ (R.at 0 : Int) = 9 := by omega
      simp [hix, vbin_eql, g1, g2]
      repeat refine Does.seq ?_
      refine Does.condF (by simp) ?_
      repeat refine Does.seq ?_
      refine Does.region ?_
      have hpre := ihCall_W (strings_prefix gl st1 R (S.ofList [92, 10]))
      rw [hR, S.toList_ofList] at hpre
      generalize hp : [92, 10].isPrefixOf (b :: r) = p at hpre
      simp [vcall_callable hk25, hpre]
      repeat refine Does.seq ?_
      cases p with
      | true =>
        have hlen := (List.isPrefixOf_iff_prefix.1 hp).length_le
        have hrl : (b :: r).length = s.n - a := by rw [← hR, S.len, hRn]
        rw [hrl] at hlen
        simp at hlen
        have w2 := go 2 (by omega)
        have hset := hct.set (a + 2)
        simp at w2 hset
        have hstep : stepL b r = .gap 2 := by rw [stepL, if_neg hsb, if_pos hp]
        refine Does.condT (by simp) ?_
        refine Does.region ?_
        simp [f1, l1, vbin_add, w2, vact, hset]
        exact ⟨by simpa using hbt.put _, 2, hstep, by simpa using Cu.at_put st1 id s (a + 2) out⟩
      | false =>
        have hp' : ¬ [92, 10].isPrefixOf (b :: r) = true := by rw [hp]; simp
        refine Does.condF (by simp) ?_
        repeat refine Does.seq ?_
        refine Does.region ?_
        by_cases hs3 : R.at 0 = 35
        · have hs3' : (R.at 0 : Int) = 35 := by omega
          have hb35 : b = 35 := by rw [hb, hs3]; rfl
          have hstep : stepL b r = .gap (eolL (b :: r)) := by rw [stepL, if_neg hsb, if_neg hp', if_pos hb35]
          have hel := eolL_le (b :: r)
          have hrl : (b :: r).length = s.n - a := by rw [← hR, S.len, hRn]
          obtain ⟨e1, e2⟩ := eol_index (b :: r)
          have hidx := ihCall_W (strings_index gl st1 R 10)
          rw [hR] at hidx
          have h10 : (10 : Nat).toUInt8 = 10 := rfl
          rw [h10] at hidx
          simp only [Int.cast_ofNat_Int] at hidx
          generalize Lib.indexByte (b :: r) 10 = w at hidx e1 e2
          simp [hix, vbin_eql, hs3']
          repeat refine Does.seq ?_
          refine Does.condT (by simp) ?_
          repeat refine Does.seq ?_
          refine Does.region ?_
          simp [vcall_callable hk16, hidx]
          repeat refine Does.seq ?_
          refine Does.region ?_
          simp [vbin_geq]
          repeat refine Does.seq ?_
          by_cases hw : 0 ≤ w
          · have hw2 := e1 hw
            subst hw2
            have w2 := go (eolL (b :: r)) (by omega)
            have hset := hct.set (a + eolL (b :: r))
            simp at w2 hset
            refine Does.condT (by simp) ?_
            refine Does.region ?_
            simp [f1, l1, vbin_add, w2, vact, hset]
            exact ⟨by simpa using hbt.put _, _, hstep, by simpa using Cu.at_put st1 id s (a + eolL (b :: r)) out⟩
          · have hw2 := e2 (by omega)
            have hset := hct.set s.n
            refine Does.condF (by simp [hw]) ?_
            refine Does.region ?_
            have hls := vlen_str Tryd.underlying9 (s := s)
            simp [f0, f1, l0, hls, vact, hset]
            refine ⟨hbt.put _, _, hstep, ?_⟩
            rw [hw2, hrl, show a + (s.n - a) = s.n by omega]
            exact Cu.at_put st1 id s s.n out
        · have hs3' : ¬ (R.at 0 : Int) = 35 := by omega
          have hb35 : ¬ b = 35 := by rw [hb]; exact fun h => hs3 ((byte_eq hb0 (by decide)).1 h)
          simp [hix, vbin_eql, hs3']
          repeat refine Does.seq ?_
          refine Does.condF (by simp) ?_
          repeat refine Does.seq ?_
          refine Does.region ?_
          simp
          refine Does.ret ?_
          exact ⟨hbt, by simp, .inr ⟨rfl, by simp, hct, ⟨hsb, hp', hb35⟩⟩⟩
end Go.Vm

namespace Go.Vm
open Go Go.Proofs Go.Lx
attribute [local simp] Oks xOps vwanted isDefer vop kindOf vpure ev evs toV andThen inBlock atTo_some Fr.dsTo Fr.glTo Fr.toNone initFr_at initFr_ds initFr_gl veff traverse tupled vresult V.undef evOpt xDraw xStep

/-- what put comes to -/
def PutR (lo id : Nat) (s : S) (b : Nat) (ts : List Tk) (st st' : St) : Prop :=
  ∃ out', Cu st' id s b out' ∧ Ot lo st' out' ts ∧ st.ctr ≤ st'.ctr ∧ ∀ i, i < lo → i ≠ id → st'.box.get i = st.box.get i

theorem Cu.l2 {st : St} {id : Nat} {s : S} {a : Nat} {out : V} (h : Cu st id s a out) : vload Tryd.prog st 25 (.ptr id 2) = some out := vload_of a25 z25 h rfl
theorem Cu.setOut {st : St} {id : Nat} {s : S} {a : Nat} {out : V} (h : Cu st id s a out) {z : V} (hz : oneC z = true) (hs : simV z = true) : vstore Tryd.prog st 25 (.ptr id 2) z = some { st with box := st.box.put id (.cells [.str s, .int .i64 (a : Int), z] 40 true (some 0)) } :=
  vstore_one z25 h (by show 2 < 3; decide) hs
theorem Ot.sim {lo : Nat} {st : St} {x : V} {l : List Tk} (h : Ot lo st x l) : simV x = true := by cases h <;> rfl

variable [Memo] [NL]

theorem put_ok (gl : Gl) (st : St) (lo id : Nat) (s : S) (a n k : Nat) (out : V) (ts : List Tk) (hc : Cu st id s a out) (hid : id < lo) (hlo : lo ≤ st.ctr) (ho : Ot lo st out ts) (ha : a + n ≤ s.n) (hn : s.n < 1000000) (hts : ts.length < 900000) :
    ∃ v st', W Tryd.prog (.call gl 22 [.ptr id 0, .int .u8 (k : Int), .int .i64 (n : Int)]) st = .call (.val v st') ∧ PutR lo id s (a + n) (ts ++ [⟨k, s.cut a (a + n), a⟩]) st st' := by
  have f0 := field0 id
  have f1 := field1 id
  have f2 := field2 id
  refine call_ex (NL.no _ rfl _ _) Tryd.func22 rfl (by kernel_rfl) ?_
  repeat refine Does.seq ?_
  refine Does.draw (b := [0, 0, 2, 6, 14, 0, 0, 64, 192, 448, 0, 1024, 3072, 7168, 0, 16384, 49152, 114688, 0, 507904, 1048512, 0, 2097152, 6291456, 14680064, 33554400, 67108832, 134217726, 268435455, 536870911, 1073741823]) (l := [1, 2, 3, 4, 5, 6, 7, 8, 9, 10, 11, 12, 13, 14, 15, 16, 17, 18, 19, 20, 21, 22, 23, 24, 25, 26, 27, 0, 28, 29, 30]) (by kernel_rfl) (by kernel_rfl) (by kernel_rfl) ?_
  have hkt := (Keep.refl st).tick 31
  have hct := hc.keep hkt (by omega)
  have hot := ho.keep hkt
  have l0 := hct.l0
  have l1 := hct.l1
  have l2 := hct.l2
  have hvo := ho.veq
  have hw := wrap_add (n := a) (m := n) (by omega)
  have hsl := vslice_lohi (P := Tryd.prog) Tryd.underlying9 (s := s) (lo := a) (hi := a + n) (by omega) ha (k := .i64) (k' := .i64)
  have hbt := build_tok k a (s.cut a (a + n))
  have hbs := build_toks k a (s.cut a (a + n))
  have hall : ([.int .u8 (k : Int), .str (s.cut a (a + n)), .int .i64 (a : Int)] : List V).all oneC = true := rfl
  have hk1 : Keep st { ctr := st.ctr + 31, box := st.box.put (st.ctr + 26) (.cells [.int .u8 (k : Int), .str (s.cut a (a + n)), .int .i64 (a : Int)] 31 true (some 0)) } := hkt.put (Nat.le_add_right ..) _
  obtain ⟨z, st2, hap, hoz, hctr, hbox⟩ := Ot.app (m := [⟨k, s.cut a (a + n), a⟩]) (y := .ms (st.ctr + 26) 0 1 3 (some 1)) (Nat.le_trans hlo hk1.ctr) (ho.keep hk1) (src_one (x := ⟨k, s.cut a (a + n), a⟩) (by simp [Tr.get_put, Tk.cells]; rfl) _) (by simp; omega) (by simp)
  have hc2 : Cu st2 id s a out := by
    unfold Cu
    rw [hbox id hid, hk1.box id (by omega)]
    exact hc
  have hset := hc2.setOut hoz.one hoz.sim
  simp at hsl
  simp [sameIn, f0, f1, f2, l0, l1, l2, veq_str, veq_int, hvo, vbin_add, hw, hsl, evParts, hbt, valloc, hbs, hall, mkRef, vact, u25, hap, hset]
  have hc3 : Cu { st2 with box := st2.box.put id (.cells [.str s, .int .i64 (a : Int), z] 40 true (some 0)) } id s a z := Cu.at_put st2 id s a z
  have hoz3 : Ot lo { st2 with box := st2.box.put id (.cells [.str s, .int .i64 (a : Int), z] 40 true (some 0)) } z (ts ++ [⟨k, s.cut a (a + n), a⟩]) := hoz.put hid
  have hb3 : ∀ i, i < lo → i ≠ id → ({ st2 with box := st2.box.put id (.cells [.str s, .int .i64 (a : Int), z] 40 true (some 0)) } : St).box.get i = st.box.get i := fun i hi hne => by
    show (st2.box.put id _).get i = _
    rw [Tr.get_put, if_neg hne, hbox i hi, hk1.box i (by omega)]
  have hctr3 : st.ctr ≤ ({ st2 with box := st2.box.put id (.cells [.str s, .int .i64 (a : Int), z] 40 true (some 0)) } : St).ctr := by
    have := hk1.ctr
    show st.ctr ≤ st2.ctr
    omega
  revert hc3 hoz3 hb3 hctr3
  generalize ({ st2 with box := st2.box.put id (.cells [.str s, .int .i64 (a : Int), z] 40 true (some 0)) } : St) = st3
  intro hc3 hoz3 hb3 hctr3
  refine Does.region ?_
  have hset2 := hc3.set (a + n)
  simp at hset2
  simp [f1, hc3.l1, vbin_add, hw, vact, hset2]
  refine ⟨z, by simpa using Cu.at_put st3 id s (a + n) z, hoz3.put hid, hctr3, fun i hi hne => ?_⟩
  show (st3.box.put id _).get i = _
  rw [Tr.get_put, if_neg hne, hb3 i hi hne]
end Go.Vm

namespace Go.Vm
open Go Go.Proofs Go.Lx
attribute [local simp] Oks xOps vwanted isDefer vop kindOf vpure ev evs toV andThen inBlock atTo_some Fr.dsTo Fr.glTo Fr.toNone initFr_at initFr_ds initFr_gl veff traverse tupled vresult V.undef evOpt xDraw xStep

def StepR (lo id : Nat) (s : S) (a : Nat) (ts : List Tk) (st' : St) (x : Int) (ok : Bool) : Stp → Prop
  | .gap n => ok = true ∧ ∃ out', Cu st' id s (a + n) out' ∧ Ot lo st' out' ts
  | .tok k n => ok = true ∧ ∃ out', Cu st' id s (a + n) out' ∧ Ot lo st' out' (ts ++ [⟨k, s.cut a (a + n), a⟩])
  | .bad n => ok = false ∧ x = ((a + n : Nat) : Int)

/-- what cut comes to -/
def CutR (lo id : Nat) (s : S) (a : Nat) (b : UInt8) (r : List UInt8) (ts : List Tk) (st : St) (v : V) (st' : St) : Prop :=
  ∃ x ok, v = .tup [.int .i64 x, .bool ok] ∧ st.ctr ≤ st'.ctr ∧ (∀ i, i < lo → i ≠ id → st'.box.get i = st.box.get i) ∧ StepR lo id s a ts st' x ok (stepL b r)

theorem g0_get {i : Nat} (hi : i < 12) : vindexAddr Tryd.prog 49 (.cp (opsS.map .str)) (.int .i64 (i : Int)) = some (.cp ((opsS.map .str).drop i)) ∧ ∀ st, vload Tryd.prog st 9 (.cp ((opsS.map .str).drop i)) = some (.str (opsS.getD i ⟨0, 0⟩)) := by
  have hb : Nat.blt i 12 = true := by rw [blt_dec]; exact decide_eq_true hi
  have h1 : i < opsS.length := by rw [opsS_len]; exact hi
  refine ⟨by simp only [vindexAddr, Tryd.underlying49, asNat_cast, z9, hb, Nat.mul_one], fun st => ?_⟩
  simp only [vload, vpart, a9, z9]
  simp [List.getD_eq_getElem?_getD, h1]
theorem g0_slice : vslice Tryd.prog 49 (.cp (opsS.map .str)) none none = some (.sl 12 (opsS.map .str) true) := by
  have hs : sub (opsS.map V.str) (0 * 1) ((12 - 0) * 1) = opsS.map .str := by rfl
  simp only [vslice, Tryd.underlying49, bound, z9, hs]
  rfl

variable [Memo] [NL]

set_option maxHeartbeats 1000000 in
theorem cut_ok (gl : Gl) (hgl : gl.get 0 = some (opsS.map .str)) (st : St) (lo id : Nat) (s : S) (a : Nat) (out : V) (ts : List Tk) (hc : Cu st id s a out) (hid : id < lo) (hlo : lo ≤ st.ctr) (ho : Ot lo st out ts) (ha : a < s.n) (hn : s.n < 1000000) (hts : ts.length < 900000)
    (b : UInt8) (r : List UInt8) (hbr : s.toList.drop a = b :: r) :
    ∃ v st', W Tryd.prog (.call gl 17 [.ptr id 0]) st = .call (.val v st') ∧ CutR lo id s a b r ts st v st' := by
  have hk21 : callable Tryd.prog 21 = true := by kernel_rfl
  have hk22 : callable Tryd.prog 22 = true := by kernel_rfl
  have hk23 : callable Tryd.prog 23 = true := by kernel_rfl
  have hk26 : callable Tryd.prog 26 = true := by kernel_rfl
  have f0 := field0 id
  have f1 := field1 id
  have zs9 : zeroT Tryd.prog 9 = some (.str ⟨0, 0⟩) := by kernel_rfl
  have hrl : r.length + 1 = s.n - a := by
    have := congrArg List.length hbr
    simp at this; omega
  refine call_ex (NL.no _ rfl _ _) Tryd.func17 rfl (by kernel_rfl) ?_
  repeat refine Does.seq ?_
  refine Does.region ?_
  simp
  repeat refine Does.seq ?_
  refine Does.region ?_
  obtain ⟨v, st1, hcall, ok, rfl, hbut, hbl⟩ := blank_ok gl st id s a out hc (by omega) ha hn b r hbr
  have hcall := ihCall_W hcall
  have ho1 := ho.but hbut hid
  have hlo1 : lo ≤ st1.ctr := Nat.le_trans hlo hbut.ctr
  have hfm1 : ∀ i, i < lo → i ≠ id → st1.box.get i = st.box.get i := fun i hi hne => hbut.box i (by omega) hne
  have hct1 := hbut.ctr
  simp [vcall_callable hk21, hcall]
  repeat refine Does.seq ?_
  rcases hbl with ⟨rfl, n, hst, hcu⟩ | ⟨rfl, hcu, hng⟩
  · refine Does.condT (by simp) ?_
    repeat refine Does.seq ?_
    refine Does.region ?_
    simp
    refine Does.ret ?_
    simp
    refine ⟨0, true, rfl, hct1, hfm1, ?_⟩
    rw [hst]
    exact ⟨rfl, out, hcu, ho1⟩
  · clear hcall hbut hc ho
    refine Does.condF (by simp) ?_
    refine Does.skip ?_
    simp
    repeat refine Does.seq ?_
    refine Does.draw (b := [0, 1, 3, 7, 0, 16, 48, 112, 255, 0, 1023]) (l := [0, 1, 2, 3, 4, 5, 6, 7, 8, 9, 10]) (by kernel_rfl) (by kernel_rfl) (by kernel_rfl) ?_
    have hkt := (Keep.refl st1).tick 11
    have hct := hcu.keep hkt (by omega)
    have l0 := hct.l0
    have l1 := hct.l1
    have hsl := vslice_lo (P := Tryd.prog) (k := .i64) Tryd.underlying9 (s := s) (lo := a) (by omega)
    have hR : (s.cut a s.n).toList = b :: r := by rw [rest_toList s (by omega), hbr]
    have hRn : (s.cut a s.n).n = s.n - a := rfl
    generalize s.cut a s.n = R at hsl hR hRn
    have hR0 : 0 < R.n := by omega
    have hb : b = UInt8.ofNat (R.at 0) := by
      have := R.toList_at hR0
      rw [hR] at this
      simpa using this
    have hb0 := R.at_lt 0
    have hix := vindex_str (P := Tryd.prog) (k := .i64) Tryd.underlying9 hR0
    simp only [Int.ofNat_zero, Int.natCast_zero, Int.cast_ofNat_Int] at hix
    have hst9 := vstore_one (P := Tryd.prog) (st := { ctr := st1.ctr + 11, box := st1.box.put (st1.ctr + 9) (.cells [.str ⟨0, 0⟩] 9 true (some 0)) }) (off := 0) (id := st1.ctr + 9) (cs := [.str ⟨0, 0⟩]) (e := 9) (fl := true) (v := .str R) z9 (by simp [Tr.get_put]) (by decide) rfl
    simp [sameIn, f0, f1, l0, l1, veq_str, veq_int, hsl, valloc, zs9, V.cells, oneC, mkRef, vact, hst9]
    have hk2 : Keep st1 { ctr := st1.ctr + 11, box := (st1.box.put (st1.ctr + 9) (.cells [.str ⟨0, 0⟩] 9 true (some 0))).put (st1.ctr + 9) (.cells [.str R] 9 true (some 0)) } :=
      Keep.put (id := st1.ctr + 9) (Keep.put (id := st1.ctr + 9) hkt (Nat.le_add_right ..) (.cells [.str ⟨0, 0⟩] 9 true (some 0))) (Nat.le_add_right ..) (.cells [.str R] 9 true (some 0))
    have hbx : ({ ctr := st1.ctr + 11, box := (st1.box.put (st1.ctr + 9) (.cells [.str ⟨0, 0⟩] 9 true (some 0))).put (st1.ctr + 9) (.cells [.str R] 9 true (some 0)) } : St).box.get (st1.ctr + 9) = some (.cells [.str R] 9 true (some 0)) := by simp [Tr.get_put]
    have hc29 : st1.ctr + 9 < ({ ctr := st1.ctr + 11, box := (st1.box.put (st1.ctr + 9) (.cells [.str ⟨0, 0⟩] 9 true (some 0))).put (st1.ctr + 9) (.cells [.str R] 9 true (some 0)) } : St).ctr := by show st1.ctr + 9 < st1.ctr + 11; omega
    revert hk2 hbx hc29
    generalize ({ ctr := st1.ctr + 11, box := (st1.box.put (st1.ctr + 9) (.cells [.str ⟨0, 0⟩] 9 true (some 0))).put (st1.ctr + 9) (.cells [.str R] 9 true (some 0)) } : St) = st2
    intro hk2 hbx hc29
    clear hst9 l0 l1 hct hkt
    have hcu2 := hcu.keep hk2 (by omega)
    have ho2 := ho1.keep hk2
    have hlo2 : lo ≤ st2.ctr := Nat.le_trans hlo1 hk2.ctr
    have hct2 : st.ctr ≤ st2.ctr := Nat.le_trans hct1 hk2.ctr
    have hfm2 : ∀ i, i < lo → i ≠ id → st2.box.get i = st.box.get i := fun i hi hne => by rw [hk2.box i (by omega), hfm1 i hi hne]
    have l9 := vload_of (P := Tryd.prog) (off := 0) a9 z9 hbx rfl
    have hstep : stepL b r = if b = 10 then .tok 1 1 else match opIx (b :: r) with
      | some _ => .tok 2 (opTx (b :: r)).length
      | none =>
        match wordL (b :: r) with
        | (n, false) => .bad n
        | (n, true) => .tok (kindL ((b :: r).take n)) n := by
      rw [stepL, if_neg hng.1, if_neg hng.2.1, if_neg hng.2.2]
      rfl
    clear hcu ho1 hk2 hlo1 hct1 hfm1
    repeat refine Does.seq ?_
    refine Does.region ?_
    by_cases h10 : R.at 0 = 10
    · have h10' : (R.at 0 : Int) = 10 := by omega
      have hb10 : b = 10 := by rw [hb, h10]; rfl
      rw [if_pos hb10] at hstep
      simp [l9, hix, vbin_eql, h10']
      repeat refine Does.seq ?_
      refine Does.condT (by simp) ?_
      repeat refine Does.seq ?_
      refine Does.region ?_
      obtain ⟨v, st3, hcall, out', hcu3, ho3, hct3, hfm3⟩ := put_ok gl st2 lo id s a 1 1 out ts hcu2 hid hlo2 ho2 (by omega) hn hts
      have hcall := ihCall_W hcall
      simp only [Int.cast_ofNat_Int] at hcall
      simp [vcall_callable hk22, hcall]
      repeat refine Does.seq ?_
      refine Does.region ?_
      simp
      refine Does.ret ?_
      simp
      refine ⟨0, true, rfl, by omega, fun i hi hne => by rw [hfm3 i hi hne, hfm2 i hi hne], ?_⟩
      rw [hstep]
      exact ⟨rfl, out', hcu3, ho3⟩
    · have h10' : ¬ (R.at 0 : Int) = 10 := by omega
      have hb10 : ¬ b = 10 := by rw [hb]; exact fun h => h10 ((byte_eq hb0 (by decide)).1 h)
      rw [if_neg hb10] at hstep
      simp [l9, hix, vbin_eql, h10']
      repeat refine Does.seq ?_
      refine Does.condF (by simp) ?_
      refine Does.skip ?_
      simp
      repeat refine Does.seq ?_
      refine Does.region ?_
      have hcall := ihCall_W (indexFunc_ok gl st2 R (st1.ctr + 9) 9 true (some 0) hbx true)
      rw [hR] at hcall
      have hg := g0_slice
      simp [hgl, hg, vcall_callable hk23, hcall]
      clear hcall
      repeat refine Does.seq ?_
      refine Does.region ?_
      cases hop : opIx (b :: r) with
      | some j =>
        rw [hop] at hstep
        obtain ⟨hj, ht, hp, hl1, hl2, hl3⟩ := opIx_len hop
        have hge : (0 : Int) ≤ (j : Int) := by omega
        obtain ⟨gi, gl9⟩ := g0_get hj
        have hlj := vlen_str Tryd.underlying9 (s := opsS.getD j ⟨0, 0⟩)
        have hjn : (opsS.getD j ⟨0, 0⟩).n = (opTx (b :: r)).length := by rw [← S.len, opsS_get, ht]
        rw [hjn] at hlj
        generalize opsS.getD j ⟨0, 0⟩ = oj at gl9 hlj
        simp [opInt, vbin_geq]
        repeat refine Does.seq ?_
        refine Does.condT (by simp) ?_
        repeat refine Does.seq ?_
        refine Does.region ?_
        have hl2' : (opTx (b :: r)).length ≤ s.n - a := by simp at hl2; omega
        obtain ⟨v, st3, hcall, out', hcu3, ho3, hct3, hfm3⟩ := put_ok gl st2 lo id s a (opTx (b :: r)).length 2 out ts hcu2 hid hlo2 ho2 (by omega) hn hts
        have hcall := ihCall_W hcall
        simp only [Int.cast_ofNat_Int] at hcall
        simp [hgl, gi, gl9, hlj, vcall_callable hk22, hcall]
        repeat refine Does.seq ?_
        refine Does.region ?_
        simp
        refine Does.ret ?_
        simp
        refine ⟨0, true, rfl, by omega, fun i hi hne => by rw [hfm3 i hi hne, hfm2 i hi hne], ?_⟩
        rw [hstep]
        exact ⟨rfl, out', hcu3, ho3⟩
      | none =>
        rw [hop] at hstep
        simp only at hstep
        simp [opInt, vbin_geq]
        repeat refine Does.seq ?_
        refine Does.condF (by simp) ?_
        refine Does.skip ?_
        simp
        repeat refine Does.seq ?_
        refine Does.region ?_
        obtain ⟨v, st3, hcall, rfl, hk3⟩ := word_ok gl st2 id s a out hcu2 (by omega) (by omega) hn
        have hcall := ihCall_W hcall
        rw [hbr] at hcall
        have hwl := wordL_le (b :: r).length (b :: r) (Nat.le_refl _)
        generalize hwd : wordL (b :: r) = wd at hcall hstep hwl
        obtain ⟨n, ok⟩ := wd
        simp only at hcall hwl
        have hcu3 := hcu2.keep hk3 (by omega)
        have ho3 := ho2.keep hk3
        have hlo3 : lo ≤ st3.ctr := Nat.le_trans hlo2 hk3.ctr
        have hct3 : st.ctr ≤ st3.ctr := Nat.le_trans hct2 hk3.ctr
        have hfm3 : ∀ i, i < lo → i ≠ id → st3.box.get i = st.box.get i := fun i hi hne => by rw [hk3.box i (by omega), hfm2 i hi hne]
        have hnl : a + n ≤ s.n := by have := hwl.1; simp at this; omega
        clear hcu2 ho2 hk3 hlo2 hct2 hfm2 hbx hwl
        simp [vcall_callable hk26, hcall]
        clear hcall
        repeat refine Does.seq ?_
        refine Does.region ?_
        cases ok with
        | false =>
          simp
          repeat refine Does.seq ?_
          refine Does.condT (by simp) ?_
          repeat refine Does.seq ?_
          refine Does.region ?_
          simp
          refine Does.ret ?_
          simp
          refine ⟨((a + n : Nat) : Int), false, by simp, hct3, hfm3, ?_⟩
          rw [hstep]
          exact ⟨rfl, rfl⟩
        | true =>
          simp
          repeat refine Does.seq ?_
          refine Does.condF (by simp) ?_
          refine Does.skip ?_
          simp
          repeat refine Does.seq ?_
          refine Does.region ?_
          simp
          repeat refine Does.seq ?_
          refine Does.draw (b := [0, 1, 3, 7, 0, 16, 48, 112, 0, 511, 1023]) (l := [0, 1, 2, 3, 4, 5, 6, 7, 8, 9, 10]) (by kernel_rfl) (by kernel_rfl) (by kernel_rfl) ?_
          have hkt := (Keep.refl st3).tick 11
          have hct4 := hcu3.keep hkt (by omega)
          have ho4 := ho3.keep hkt
          have l0 := hct4.l0
          have l1 := hct4.l1
          have hlo4 : lo ≤ ({ ctr := st3.ctr + 11, box := st3.box } : St).ctr := Nat.le_trans hlo3 hkt.ctr
          have hctr4 : st.ctr ≤ ({ ctr := st3.ctr + 11, box := st3.box } : St).ctr := Nat.le_trans hct3 hkt.ctr
          have hfm4 : ∀ i, i < lo → i ≠ id → ({ ctr := st3.ctr + 11, box := st3.box } : St).box.get i = st.box.get i := hfm3
          have hsl := vslice_lohi (P := Tryd.prog) Tryd.underlying9 (s := s) (lo := a) (hi := a + n) (by omega) hnl (k := .i64) (k' := .i64)
          simp at hsl
          simp [sameIn, f0, f1, l0, l1, veq_str, veq_int, hsl]
          clear l0 l1
          revert hct4 ho4 hlo4 hctr4 hfm4
          generalize ({ ctr := st3.ctr + 11, box := st3.box } : St) = st4
          intro hct4 ho4 hlo4 hctr4 hfm4
          clear hcu3 ho3 hlo3 hct3 hfm3 hkt
          have hcl : (s.cut a (a + n)).toList = (b :: r).take n := by
            rw [S.toList_cut s (by omega) hnl, hbr, show a + n - a = n by omega]
          have e1 : ∀ c : UInt8, (s.cut a (a + n)).same (S.ofList [c]) = decide ((b :: r).take n = [c]) := fun c => by
            rw [S.same_eq, hcl, S.toList_ofList, Bool.eq_iff_iff]; simp
          refine Does.mono (Q := fun e fr' st' => e = AE.normal ∧ st' = st4 ∧ fr'.ds = [] ∧ fr'.gl = gl ∧ Fr.at fr' 0 = .ptr id 0 ∧ Fr.at fr' 6 = .int .i64 ((a : Int) + (n : Int)) ∧ Fr.at fr' 8 = .int .u8 (kindL ((b :: r).take n) : Int)) ?ka ?kb
          case ka =>
            repeat refine Does.seq ?_
            refine Does.region ?_
            have d1 := e1 33
            have d2 := e1 123
            have d3 := e1 125
            by_cases k1 : (b :: r).take n = [33]
            · rw [k1, decide_eq_true rfl] at d1
              have hkd : kindL ((b :: r).take n) = 2 := by rw [k1]; rfl
              simp [vbin_seql, d1]
              repeat refine Does.seq ?_
              refine Does.condT (by simp) ?_
              refine Does.region ?_
              simp [hkd]
            · rw [decide_eq_false k1] at d1
              by_cases k2 : (b :: r).take n = [123]
              · rw [k2, decide_eq_true rfl] at d2
                have hkd : kindL ((b :: r).take n) = 2 := by rw [k2]; rfl
                simp [vbin_seql, d1, d2]
                repeat refine Does.seq ?_
                refine Does.condT (by simp) ?_
                refine Does.region ?_
                simp [hkd]
              · rw [decide_eq_false k2] at d2
                by_cases k3 : (b :: r).take n = [125]
                · rw [k3, decide_eq_true rfl] at d3
                  have hkd : kindL ((b :: r).take n) = 2 := by rw [k3]; rfl
                  simp [vbin_seql, d1, d2, d3]
                  repeat refine Does.seq ?_
                  refine Does.condT (by simp) ?_
                  refine Does.region ?_
                  simp [hkd]
                · rw [decide_eq_false k3] at d3
                  have hkd : kindL ((b :: r).take n) = 3 := by simp [kindL, k1, k2, k3]
                  simp [vbin_seql, d1, d2, d3]
                  repeat refine Does.seq ?_
                  refine Does.condF (by simp) ?_
                  refine Does.skip ?_
                  simp [hkd]
          case kb =>
            rintro e fr' st' ⟨rfl, hst', hds, hgl4, f40, f46, f48⟩
            rw [hst']
            simp
            repeat refine Does.seq ?_
            refine Does.region ?_
            have hw : IntKind.i64.wrap ((a : Int) + (n : Int) - (a : Int)) = (n : Int) := by rw [wrap_i64 (by omega) (by omega)]; omega
            obtain ⟨v, st5, hcall, out', hcu5, ho5, hct5, hfm5⟩ := put_ok gl st4 lo id s a n (kindL ((b :: r).take n)) out ts hct4 hid hlo4 ho4 hnl hn hts
            have hcall := ihCall_W hcall
            simp [f40, f46, f48, f1, hct4.l1, vbin_sub, hw, hgl4, vcall_callable hk22, hcall]
            repeat refine Does.seq ?_
            refine Does.region ?_
            simp
            refine Does.ret ?_
            simp [hds]
            refine ⟨0, true, rfl, by omega, fun i hi hne => by rw [hfm5 i hi hne, hfm4 i hi hne], ?_⟩
            rw [hstep]
            exact ⟨rfl, out', hcu5, ho5⟩
end Go.Vm
