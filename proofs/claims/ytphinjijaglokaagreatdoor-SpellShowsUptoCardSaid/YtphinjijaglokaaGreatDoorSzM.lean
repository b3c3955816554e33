/- A node at a text's begin: by the program (reader.node). -/
import Derived.Test.YtphinjijaglokaaGreatDoorSzL
namespace Go.Vm
open Go Go.Proofs Go.Pa
attribute [local simp] OkP QH OkS Qi OkG Qh Qp OkD JY Qr JI Jm Jq vop Js JB ev evs toV Jl Fr.dsTo Fr.glTo Fr.toNone Ji Jj Jk Qk QL Jd JD Jv V.undef JW JM J7 JX J3 J9 J8 Qa JH J4 J5 JZ JO Qb Jt Ju Jw Jz JE Jr JL JN JK Qq
theorem Mine.vsz' {lo : Nat} {e : TypeId} {st : St} {x : V} {l : List V} (h : Mine lo e st x l) : vsz x ≤ 200000000 := by cases h <;> exact Nat.le_of_ble_eq_true rfl
theorem Mz.vsz' {z lo : Nat} {e : TypeId} {st : St} {x : V} {l : List (List V)} (h : Mz z lo e st x l) : vsz x ≤ 200000000 := by cases h <;> exact Nat.le_of_ble_eq_true rfl
inductive NRA (A : Nat → Prop) (st : St) : List V → Nt → Prop
 | mk (kind : Nat) (text : S) (nv kv : V) (names : List S) (kids : List Nt) (css : List (List V)) (hk : kind < 256) (hn : Mine 0 9 st nv (names.map .str)) (hs : Mz 4 0 25 st kv css) (ha : ∀ i, vid nv i → A i) (hb : ∀ i, vid kv i → A i) (hl : css.length = kids.length)
   (hr : ∀ i (h : i < css.length) (h' : i < kids.length), NRA A st css[i] kids[i]) : NRA A st [.int .u8 (kind : Int), .str text, nv, kv] (.mk kind text names kids)
theorem NRA.nr {A : Nat → Prop} {st : St} {cs : List V} {t : Nt} (h : NRA A st cs t) : NR st cs t := by
 induction h with
 | mk kind text nv kv names kids css hk hn hs ha hb hl hr ih => exact .mk kind text nv kv names kids css hk hn.vw hs.sv hl ⟨hn.vsz', hs.vsz'⟩ ih
theorem NRA.stab {A : Nat → Prop} {st st' : St} {cs : List V} {t : Nt} (h : NRA A st cs t) (hc : st.ctr ≤ st'.ctr) (hb : ∀ i, A i → st'.box.get i = st.box.get i) : NRA A st' cs t := by
 induction h with
 | mk kind text nv kv names kids css hk hn hs ha hb' hl hr ih => exact .mk kind text nv kv names kids css hk (hn.stab hc fun i hi => hb i (ha i hi)) (hs.stab hc fun i hi => hb i (hb' i hi)) ha hb' hl ih
theorem NRA.mono {A B : Nat → Prop} {st : St} {cs : List V} {t : Nt} (h : NRA A st cs t) (hab : ∀ i, A i → B i) : NRA B st cs t := by
 induction h with
 | mk kind text nv kv names kids css hk hn hs ha hb hl hr ih => exact .mk kind text nv kv names kids css hk hn hs (fun i hi => hab i (ha i hi)) (fun i hi => hab i (hb i hi)) hl ih
def Fresh (st st' : St) (cs : List V) (t : Nt) : Prop := ∃ A : Nat → Prop, NRA A st' cs t ∧ ∀ i, A i → st.ctr ≤ i ∧ i < st'.ctr
theorem Fresh.leaf {st st' : St} {k : Nat} (hk : k < 256) (z : S) : Fresh st st' [.int .u8 (k : Int), .str z, .nils, .nils] (.mk k z [] []) :=
 ⟨fun _ => False, .mk k z .nils .nils [] [] [] hk .nils .nils (fun _ h => h.elim) (fun _ h => h.elim) rfl fun i h => by simp at h, fun _ h => h.elim⟩
theorem Fresh.stab {st s1 s2 : St} {cs : List V} {t : Nt} (h : Fresh st s1 cs t) (hc : s1.ctr ≤ s2.ctr) (hb : ∀ i, st.ctr ≤ i → i < s1.ctr → s2.box.get i = s1.box.get i) : Fresh st s2 cs t := by
 obtain ⟨A, h1, h2⟩ := h
 exact ⟨A, h1.stab hc fun i hi => hb i (h2 i hi).1 (h2 i hi).2, fun i hi => ⟨(h2 i hi).1, Nat.lt_of_lt_of_le (h2 i hi).2 hc⟩⟩
theorem Fresh.from {st st0 st' : St} {cs : List V} {t : Nt} (h : Fresh st st' cs t) (hc : st0.ctr ≤ st.ctr) : Fresh st0 st' cs t := by
 obtain ⟨A, h1, h2⟩ := h
 exact ⟨A, h1, fun i hi => ⟨Nat.le_trans hc (h2 i hi).1, (h2 i hi).2⟩⟩
theorem Fresh.nr {st st' : St} {cs : List V} {t : Nt} (h : Fresh st st' cs t) : NR st' cs t := by obtain ⟨A, h, _⟩ := h; exact h.nr
def NodeQ (rb : Nat) (s : S) (bad : Bool) (st : St) (v : V) (st' : St) : Prop := ∃ (cs : List V) (t : Nt) (r : S), v = .agg cs ∧ Fresh st st' cs t ∧ r.n ≤ s.n ∧ ((bad = false ∧ t.okN ∧ s.toList = shw t ++ r.toList ∧ RdB st' rb r false) ∨ ((bad = false → JcV s.toList) ∧ RdB st' rb r true))
theorem JG : Jat Tryz.prog 25 = some (.agg [.int .u8 0, .str ⟨0, 0⟩, .nils, .nils]) := by kernel_rfl
theorem Je : Jb7 Tryz.prog 25 [] = some (.agg [.int .u8 0, .str ⟨0, 0⟩, .nils, .nils]) := by kernel_rfl
theorem Jmo (z : S) : Jb7 Tryz.prog 25 [(0, .int .u8 1), (1, .str z)] = some (.agg [.int .u8 1, .str z, .nils, .nils]) := by kernel_rfl
theorem JoN (z : S) : Jb7 Tryz.prog 25 [(0, .int .u8 3), (1, .str z)] = some (.agg [.int .u8 3, .str z, .nils, .nils]) := by kernel_rfl
theorem JhI : Jb7 Tryz.prog 25 [(0, .int .u8 2)] = some (.agg [.int .u8 2, .str ⟨0, 0⟩, .nils, .nils]) := by kernel_rfl
theorem JR : ([.int .u8 0, .str ⟨0, 0⟩, .nils, .nils] : List V).all Qn = true := rfl
theorem Jpy (z : S) : Q8 Tryz.prog 22 1 [(0, .str z)] = some ([.str z], 9, 1) := by kernel_rfl
theorem JpY {a b c d : V} (ho : ([a, b, c, d] : List V).all Qn = true) : Q8 Tryz.prog 23 1 [(0, .agg [a, b, c, d])] = some ([a, b, c, d], 25, 4) := by
 have h1 : Q8 Tryz.prog 23 1 [(0, .agg [a, b, c, d])] = (match ([a, b, c, d] : List V).all Qn with | true => some ([a, b, c, d], 25, 4) | false => none) := by kernel_rfl
 rw [h1, ho]
theorem Jot {cs : List V} (hl : cs.length = 4) (ho : cs.all Qn = true) : Q8 Tryz.prog 23 1 [(0, .agg cs)] = some (cs, 25, 4) := by
 match cs, hl with
 | [a, b, c, d], _ => exact JpY ho
theorem Jah {st : St} {id : Nat} {cs cs' : List V} {fl : Bool} (hb : st.box.get id = some (.cells cs' 25 fl (some 0))) (hl' : cs'.length = 4) (hl : cs.length = 4) (ho : cs.all Qn = true) :
  ∃ st', Q0 Tryz.prog st 25 (.ptr id 0) (.agg cs) = some st' ∧ st'.box.get id = some (.cells cs 25 fl (some 0)) ∧ Only id st st' :=
 ⟨_, JgU Jbh hb hl' hl ho, by show (st.box.put id _).get id = _; rw [Tr.get_put, if_pos rfl], Nat.le_refl _, fun j hj => by show (st.box.put id _).get j = _; rw [Tr.get_put, if_neg hj]⟩
theorem QZ {st : St} {id : Nat} {cs : List V} {e : TypeId} {fl : Bool} {fz : Option Nat} (hb : st.box.get id = some (.cells cs e fl fz)) (hl : cs.length = 4) : Qe Tryz.prog st 25 (.ptr id 0) = some (.agg cs) := by
 have h1 : Nat.ble (0 + 4) cs.length = true := Nat.ble_eq_true_of_le (by omega)
 simp only [Qe, hb, Jbp, Jdo, Jbh, h1, sub, List.drop_zero]
 rw [List.take_of_length_le (by omega)]
structure NMk (st0 st : St) (nb : Nat) (nv kv : V) (names : List S) (css : List (List V)) (kids : List Nt) : Prop where
 b : st.box.get nb = some (.cells [.int .u8 2, .str ⟨0, 0⟩, nv, kv] 25 true (some 0))
 lt : nb < st.ctr
 lo : st0.ctr ≤ nb
 hn : Mine st0.ctr 9 st nv (names.map .str)
 hs : Mz 4 st0.ctr 25 st kv css
 n1 : ¬ vid nv nb
 n2 : ¬ vid kv nb
 n3 : ∀ i, vid nv i → ¬ vid kv i
 l : css.length = kids.length
 k : ∃ A : Nat → Prop, (∀ i, A i → st0.ctr ≤ i ∧ i < st.ctr ∧ i ≠ nb ∧ ¬ vid nv i ∧ ¬ vid kv i) ∧ ∀ i (h : i < css.length) (h' : i < kids.length), NRA A st css[i] kids[i]
theorem NMk.out {st0 st st' : St} {nb : Nat} {nv kv : V} {names : List S} {css : List (List V)} {kids : List Nt} (h : NMk st0 st nb nv kv names css kids) (hc : st.ctr ≤ st'.ctr) (hb : ∀ i, st0.ctr ≤ i → i < st.ctr → st'.box.get i = st.box.get i) : NMk st0 st' nb nv kv names css kids := by
 obtain ⟨A, hA, hk⟩ := h.k
 exact ⟨(hb nb h.lo h.lt).trans h.b, Nat.lt_of_lt_of_le h.lt hc, h.lo, h.hn.stab hc fun i hi => hb i (h.hn.vid_lt hi).1 (h.hn.vid_lt hi).2, h.hs.stab hc fun i hi => hb i (h.hs.vid_lt hi).1 (h.hs.vid_lt hi).2, h.n1, h.n2, h.n3, h.l, A, fun i hi => by
  obtain ⟨a1, a2, a3⟩ := hA i hi
  exact ⟨a1, Nat.lt_of_lt_of_le a2 hc, a3⟩, fun i h1 h2 => (hk i h1 h2).stab hc fun j hj => hb j (hA j hj).1 (hA j hj).2.1⟩
theorem NMk.fresh {st0 st : St} {nb : Nat} {nv kv : V} {names : List S} {css : List (List V)} {kids : List Nt} (h : NMk st0 st nb nv kv names css kids) : Fresh st0 st [.int .u8 ((2 : Nat) : Int), .str ⟨0, 0⟩, nv, kv] (.mk 2 ⟨0, 0⟩ names kids) := by
 obtain ⟨A, hA, hk⟩ := h.k
 refine ⟨fun i => A i ∨ vid nv i ∨ vid kv i, .mk 2 ⟨0, 0⟩ nv kv names kids css (by omega) (h.hn.low (Nat.zero_le _)) (h.hs.low (Nat.zero_le _)) (fun i hi => .inr (.inl hi)) (fun i hi => .inr (.inr hi)) h.l fun i h1 h2 => (hk i h1 h2).mono fun j hj => .inl hj, fun i hi => ?_⟩
 rcases hi with hi | hi | hi
 ·exact ⟨(hA i hi).1, (hA i hi).2.1⟩
 ·exact h.hn.vid_lt hi
 ·exact h.hs.vid_lt hi
theorem NMk.name {st0 st : St} {nb : Nat} {nv kv : V} {names : List S} {css : List (List V)} {kids : List Nt} (h : NMk st0 st nb nv kv names css kids) (z : S) {id : Nat} (hid : st.ctr ≤ id) {q : St} (hq : id < q.ctr) (hqc : st.ctr ≤ q.ctr) (hqb : ∀ i, st0.ctr ≤ i → i < st.ctr → q.box.get i = st.box.get i) (hqi : q.box.get id = some (.cells [.str z] 9 true (some 0))) (hlen : names.length < 1000000) :
  ∃ nv' u1 u2, QE Tryz.prog q 22 nv (.ms id 0 1 1 (some 1)) = some (nv', u1) ∧ Q0 Tryz.prog u1 22 (.ptr nb 2) nv' = some u2 ∧ NMk st0 u2 nb nv' kv (names ++ [z]) css kids ∧ q.ctr ≤ u2.ctr ∧ (∀ i, i < st0.ctr → u2.box.get i = q.box.get i) ∧ (∀ i, vid nv' i → vid nv i ∨ q.ctr ≤ i) ∧ ∀ i, i < q.ctr → i ≠ nb → ¬ vid nv i → u2.box.get i = q.box.get i := by
 obtain ⟨i9', hi9, hs9, hb9⟩ := i9
 have hlt := h.lt
 have hlo := h.lo
 have hm1 := h.hn.stab hqc fun i hi => hqb i (h.hn.vid_lt hi).1 (h.hn.vid_lt hi).2
 have hsrc : Jbv q (.ms id 0 1 1 (some 1)) [.str z] := ⟨by simp only [Jad, JP, hqi]; rfl, rfl⟩
 have hnl : (names.map V.str).length = names.length := List.length_map _
 obtain ⟨nv', u1, ha, hlow, hmn, hvn, hbn⟩ := hm1.push2 (T := 22) Tryz.underlying22 hi9 hs9 zs9 rfl hsrc (by omega) (Nat.le_trans (Nat.mul_le_mul (show _ ≤ 1000001 by rw [hnl]; simp; omega) hb9) (by simp [JA])) (by rw [hnl]; simp [JA]; omega)
 have hb1 : u1.box.get nb = some (.cells [.int .u8 2, .str ⟨0, 0⟩, nv, kv] 25 true (some 0)) := (hbn nb (by omega) h.n1).trans ((hqb nb hlo hlt).trans h.b)
 have hv1 : ¬ vid nv' nb := fun hh => (hvn nb hh).elim h.n1 fun h2 => by omega
 have hu := QR (P := Tryz.prog) (t := 22) (off := 2) (v := nv') JhC hb1 (by simp) hmn.sim
 have hc1 := hlow.ctr
 obtain ⟨A, hA, hk⟩ := h.k
 have same : ∀ i, st0.ctr ≤ i → i < st.ctr → i ≠ nb → ¬ vid nv i → (u1.box.put nb (.cells ([.int .u8 2, .str ⟨0, 0⟩, nv, kv].set 2 nv') 25 true (some 0))).get i = st.box.get i := fun i hl hi hn hv => by
  rw [Tr.get_put, if_neg hn, hbn i (by omega) hv, hqb i hl hi]
 refine ⟨nv', u1, _, ha, hu, ⟨?_, by show nb < u1.ctr; omega, hlo, ?_, ?_, hv1, h.n2, ?_, h.l, A, ?_, ?_⟩, hc1, fun i hi => ?_, hvn, fun i hi hn hv => ?_⟩
 ·show (u1.box.put nb _).get nb = _
  rw [Tr.get_put, if_pos rfl]; rfl
 ·rw [List.map_append]
  exact hmn.stab (Nat.le_refl _) fun i hi => by
   show (u1.box.put nb _).get i = _
   rw [Tr.get_put, if_neg (by rintro rfl; exact hv1 hi)]
 ·exact h.hs.stab (by show st.ctr ≤ u1.ctr; omega) fun i hi => same i (h.hs.vid_lt hi).1 (h.hs.vid_lt hi).2 (by rintro rfl; exact h.n2 hi) fun hh => h.n3 i hh hi
 ·exact fun i hi hk => (hvn i hi).elim (fun hh => h.n3 i hh hk) fun hh => by have := (h.hs.vid_lt hk).2; omega
 ·exact fun i hi => by
   obtain ⟨a1, a2, a3, a4, a5⟩ := hA i hi
   exact ⟨a1, by show i < u1.ctr; omega, a3, fun hh => (hvn i hh).elim a4 fun h2 => by omega, a5⟩
 ·exact fun i h1 h2 => (hk i h1 h2).stab (by show st.ctr ≤ u1.ctr; omega) fun j hj => by
   obtain ⟨a1, a2, a3, a4, a5⟩ := hA j hj
   exact same j a1 a2 a3 a4
 ·show (u1.box.put nb _).get i = _
  rw [Tr.get_put, if_neg (by omega), hbn i (by omega) fun hh => by have := (h.hn.vid_lt hh).1; omega]
 ·show (u1.box.put nb _).get i = _
  rw [Tr.get_put, if_neg hn, hbn i hi hv]
theorem JpZ : (match Tryz.prog.info? 25 with
  | some i => Nat.beq i.size 4 && Nat.ble i.bytes 256
  | none => false) = true := by kernel_rfl
theorem i25 : ∃ i, Tryz.prog.info? 25 = some i ∧ i.size = 4 ∧ i.bytes ≤ 256 := by
 have h := JpZ
 split at h
 ·rename_i i hi
  simp only [Bool.and_eq_true] at h
  exact ⟨i, hi, Nat.eq_of_beq_eq_true h.1, Nat.le_of_ble_eq_true h.2⟩
 ·cases h
theorem Mz.sim {z lo : Nat} {e : TypeId} {st : St} {x : V} {css : List (List V)} (h : Mz z lo e st x css) : JgL x = true := by cases h <;> rfl
theorem NMk.kid' {st0 st : St} {nb : Nat} {nv kv : V} {names : List S} {css : List (List V)} {kids : List Nt} (h : NMk st0 st nb nv kv names css kids) {cs : List V} {t : Nt} {id : Nat} (hid : st.ctr ≤ id) {q : St} (hq : id < q.ctr) (hqc : st.ctr ≤ q.ctr) (hqb : ∀ i, st0.ctr ≤ i → i < st.ctr → q.box.get i = st.box.get i) (hqi : q.box.get id = some (.cells cs 25 true (some 0)))
  {B : Nat → Prop} (hcs : NRA B q cs t) (hB : ∀ i, B i → st0.ctr ≤ i ∧ i < q.ctr) (hBd : ∀ i, B i → i ≠ nb ∧ ¬ vid kv i ∧ ¬ vid nv i) (hlen : kids.length < 1000000) :
  ∃ kv' u1 u2, QE Tryz.prog q 23 kv (.ms id 0 1 4 (some 1)) = some (kv', u1) ∧ Q0 Tryz.prog u1 23 (.ptr nb 3) kv' = some u2 ∧ NMk st0 u2 nb nv kv' names (css ++ [cs]) (kids ++ [t]) ∧ q.ctr ≤ u2.ctr ∧ ∀ i, i < st0.ctr → u2.box.get i = q.box.get i := by
 obtain ⟨i9', hi9, hs9, hb9⟩ := i25
 have hlt := h.lt
 have hlo := h.lo
 have hl4 : cs.length = 4 := hcs.nr.len
 have hm1 := h.hs.stab hqc fun i hi => hqb i (h.hs.vid_lt hi).1 (h.hs.vid_lt hi).2
 have hsrc : Sv 4 q (.ms id 0 1 4 (some 1)) [cs] := by
  have := Sv.ms (z := 4) (st := q) id 0 (some 1) cs 25 true (some 0) [cs] (Rz.cons hl4 .nil) hqi (by rw [sub, List.drop_zero, List.take_of_length_le (by simp; omega)]; simp) (by simp; omega) hq rfl
  exact this
 have hl := h.l
 have hone := hcs.nr.ones
 obtain ⟨kv', u1, ha, hlow, hmn, hvn, hbn⟩ := hm1.push (T := 23) Tryz.underlying23 hi9 hs9 rfl JG rfl hsrc (by simpa using hone) (by omega) (Nat.le_trans (Nat.mul_le_mul (show _ ≤ 1000001 by simp; omega) hb9) (by simp [JA])) (by simp [JA]; omega)
 have hb1 : u1.box.get nb = some (.cells [.int .u8 2, .str ⟨0, 0⟩, nv, kv] 25 true (some 0)) := (hbn nb (by omega) h.n2).trans ((hqb nb hlo hlt).trans h.b)
 have hv1 : ¬ vid kv' nb := fun hh => (hvn nb hh).elim h.n2 fun h2 => by omega
 have hu := QR (P := Tryz.prog) (t := 23) (off := 3) (v := kv') JnB hb1 (by simp) hmn.sim
 have hc1 := hlow.ctr
 obtain ⟨A, hA, hk⟩ := h.k
 have same : ∀ i, i ≠ nb → ¬ vid kv i → i < q.ctr → (u1.box.put nb (.cells ([.int .u8 2, .str ⟨0, 0⟩, nv, kv].set 3 kv') 25 true (some 0))).get i = q.box.get i := fun i hn hv hi => by
  rw [Tr.get_put, if_neg hn, hbn i hi hv]
 refine ⟨kv', u1, _, ha, hu, ⟨?_, by show nb < u1.ctr; omega, hlo, ?_, ?_, h.n1, hv1, ?_, by simp [h.l], fun i => (A i ∨ B i) ∧ ¬ vid kv' i, ?_, ?_⟩, hc1, fun i hi => ?_⟩
 ·show (u1.box.put nb _).get nb = _
  rw [Tr.get_put, if_pos rfl]; rfl
 ·exact h.hn.stab (by show st.ctr ≤ u1.ctr; omega) fun i hi => (same i (by rintro rfl; exact h.n1 hi) (h.n3 i hi) (by have := (h.hn.vid_lt hi).2; omega)).trans (hqb i (h.hn.vid_lt hi).1 (h.hn.vid_lt hi).2)
 ·exact hmn.stab (Nat.le_refl _) fun i hi => by
   show (u1.box.put nb _).get i = _
   rw [Tr.get_put, if_neg (by rintro rfl; exact hv1 hi)]
 ·exact fun i hi hk => (hvn i hk).elim (h.n3 i hi) fun hh => by have := (h.hn.vid_lt hi).2; omega
 ·rintro i ⟨hi | hi, hv⟩
  ·obtain ⟨a1, a2, a3, a4, a5⟩ := hA i hi
   exact ⟨a1, by show i < u1.ctr; omega, a3, a4, hv⟩
  ·obtain ⟨b1, b2⟩ := hB i hi
   obtain ⟨b3, b4, b5⟩ := hBd i hi
   exact ⟨b1, by show i < u1.ctr; omega, b3, b5, hv⟩
 ·intro i h1 h2
  have hAn : ∀ j, A j → ¬ vid kv' j := fun j hj hh => by
   obtain ⟨a1, a2, a3, a4, a5⟩ := hA j hj
   exact (hvn j hh).elim a5 fun h2 => by omega
  have hBn : ∀ j, B j → ¬ vid kv' j := fun j hj hh => by
   rcases hvn j hh with h2 | h2
   ·exact (hBd j hj).2.1 h2
   ·have := (hB j hj).2; omega
  by_cases hi : i < css.length
  ·rw [List.getElem_append_left hi, List.getElem_append_left (by omega)]
   refine ((hk i hi (by omega)).stab (by show st.ctr ≤ u1.ctr; omega) fun j hj => ?_).mono fun j hj => ⟨.inl hj, hAn j hj⟩
   obtain ⟨a1, a2, a3, a4, a5⟩ := hA j hj
   exact (same j a3 a5 (by omega)).trans (hqb j a1 a2)
  ·have hie : i = css.length := by simp at h1; omega
   subst hie
   have e1 : (css ++ [cs])[css.length] = cs := by simp
   have e2 : (kids ++ [t])[css.length] = t := by
    have : (kids ++ [t])[kids.length]'(by simp) = t := by simp
    simp only [hl]; exact this
   rw [e1, e2]
   refine NRA.mono (hcs.stab hc1 ?_) fun j hj => ⟨.inr hj, hBn j hj⟩
   exact fun j hj => same j (hBd j hj).1 (hBd j hj).2.1 (hB j hj).2
 ·show (u1.box.put nb _).get i = _
  rw [Tr.get_put, if_neg (by omega), hbn i (by omega) fun hh => by have := (h.hs.vid_lt hh).1; omega]
theorem NMk.kid {st0 st : St} {nb : Nat} {nv kv : V} {names : List S} {css : List (List V)} {kids : List Nt} (h : NMk st0 st nb nv kv names css kids) {cs : List V} {t : Nt} {id : Nat} (hid : st.ctr ≤ id) {q : St} (hq : id < q.ctr) (hqc : st.ctr ≤ q.ctr) (hqb : ∀ i, st0.ctr ≤ i → i < st.ctr → q.box.get i = st.box.get i) (hqi : q.box.get id = some (.cells cs 25 true (some 0)))
  {B : Nat → Prop} (hcs : NRA B q cs t) (hB : ∀ i, B i → st.ctr ≤ i ∧ i < q.ctr) (hlen : kids.length < 1000000) :
  ∃ kv' u1 u2, QE Tryz.prog q 23 kv (.ms id 0 1 4 (some 1)) = some (kv', u1) ∧ Q0 Tryz.prog u1 23 (.ptr nb 3) kv' = some u2 ∧ NMk st0 u2 nb nv kv' names (css ++ [cs]) (kids ++ [t]) ∧ q.ctr ≤ u2.ctr ∧ ∀ i, i < st0.ctr → u2.box.get i = q.box.get i :=
 h.kid' hid hq hqc hqb hqi hcs (fun i hi => ⟨by have := h.lt; have := h.lo; have := (hB i hi).1; omega, (hB i hi).2⟩) (fun i hi => ⟨by have := (hB i hi).1; have := h.lt; omega, fun hh => by have := (h.hs.vid_lt hh).2; have := (hB i hi).1; omega, fun hh => by have := (h.hn.vid_lt hh).2; have := (hB i hi).1; omega⟩) hlen
end Go.Vm
namespace Go.Vm
open Go Go.Proofs Go.Pa
attribute [local simp] OkP QH OkS Qi OkG Qh Qp OkD JY Qr JI Jm Jq vop Js JB ev evs toV Jl Fr.dsTo Fr.glTo Fr.toNone Ji Jj Jk Qk QL Jd JD Jv V.undef JW JM J7 JX J3 J9 J8 Qa JH J4 J5 JZ JO Qb Jt Ju Jw Jz JE Jr JL JN JK Qq
theorem JoO (s : St) (id : Nat) (x : Bx) : ∃ q : St, ({ ctr := s.ctr, box := s.box.put id x } : St) = q ∧ q.ctr = s.ctr ∧ q.box.get id = some x ∧ ∀ j, j ≠ id → q.box.get j = s.box.get j := ⟨_, rfl, rfl, put_get.trans (if_pos rfl), fun _j hj => put_get.trans (if_neg hj)⟩
theorem Jf (s : S) : Qn (.str s) = true := rfl
theorem Jg : Qn .nils = true := rfl
theorem RdO.only {rb id : Nat} {a b c : St} (h : RdO rb a b) (k : Only id b c) (hi : a.ctr ≤ id) : RdO rb a c := ⟨Nat.le_trans h.ctr k.ctr, fun i hi' hf => (k.box i (by omega)).trans (h.box i hi' hf)⟩
theorem RdB.only {st st' : St} {rb id : Nat} {s : S} {bad : Bool} (h : RdB st rb s bad) (k : Only id st st') (hi : rb ≠ id) : RdB st' rb s bad := ⟨(k.box rb hi).trans h.b, Nat.lt_of_lt_of_le h.lt k.ctr⟩
theorem TextQ.uni {rb : Nat} {s : S} {bad : Bool} {v : V} {st' : St} (h : TextQ rb s bad v st') : ∃ (z r : S) (bd : Bool), v = .str z ∧ r.n ≤ s.n ∧ RdB st' rb r bd ∧ (bd = false → bad = false ∧ z.n < 1000000 ∧ s.toList = JaN z ++ r.toList) ∧ (bd = true → bad = false → JdT s.toList) := by
 rcases h with ⟨h1, z, r, h2, h3, h4, h5⟩ | ⟨h1, r, h2, h3, h4⟩
 ·exact ⟨z, r, false, h2, by have := congrArg List.length h4; rw [List.length_append, S.len, S.len] at this; omega, h5, fun _ => ⟨h1, h3, h4⟩, fun h => by cases h⟩
 ·exact ⟨_, r, true, h3, h2, h4, (fun h => by cases h), fun _ => h1⟩
theorem NumQ.uni {rb : Nat} {s : S} {bad : Bool} {v : V} {st' : St} (h : NumQ rb s bad v st') : ∃ (n : Nat) (r : S) (bd : Bool), v = .int .i64 (n : Int) ∧ n < 1000000 ∧ r.n ≤ s.n ∧ RdB st' rb r bd ∧ (bd = false → bad = false ∧ NumAt s.toList n r.toList) ∧ (bd = true → bad = false → ∀ n r, ¬ NumAt s.toList n r) := by
 rcases h with ⟨n, r, h1, h2, h3⟩ | ⟨h1, h2, h3⟩
 ·exact ⟨n, r, bad, h2, h1.1, by have := h1.len; omega, h3, fun h => ⟨h, h1⟩, fun h h' => by rw [h] at h'; cases h'⟩
 ·exact ⟨0, s, true, h2, by omega, Nat.le_refl _, h3, (fun h => by cases h), fun _ _ => h1⟩
theorem NodeQ.uni {rb : Nat} {s : S} {bad : Bool} {st : St} {v : V} {st' : St} (h : NodeQ rb s bad st v st') : ∃ (cs : List V) (t : Nt) (r : S) (bd : Bool), v = .agg cs ∧ Fresh st st' cs t ∧ r.n ≤ s.n ∧ RdB st' rb r bd ∧ (bd = false → bad = false ∧ t.okN ∧ s.toList = shw t ++ r.toList) ∧ (bd = true → bad = false → JcV s.toList) := by
 obtain ⟨cs, t, r, h1, h2, h3, ⟨h4, h5, h6, h7⟩ | ⟨h4, h5⟩⟩ := h
 ·exact ⟨cs, t, r, false, h1, h2, h3, h7, fun _ => ⟨h4, h5, h6⟩, fun h => by cases h⟩
 ·exact ⟨cs, t, r, true, h1, h2, h3, h5, (fun h => by cases h), fun _ => h4⟩
theorem NodeQ.mk' {rb : Nat} {s : S} {bad : Bool} {st : St} {st' : St} {cs : List V} {t : Nt} {r : S} {bd : Bool} (h2 : Fresh st st' cs t) (h3 : r.n ≤ s.n) (h4 : RdB st' rb r bd) (h5 : bd = false → bad = false ∧ t.okN ∧ s.toList = shw t ++ r.toList) (h6 : bd = true → bad = false → JcV s.toList) : NodeQ rb s bad st (.agg cs) st' := by
 cases bd with
 | false => obtain ⟨a1, a2, a3⟩ := h5 rfl; exact ⟨cs, t, r, rfl, h2, h3, .inl ⟨a1, a2, a3, h4⟩⟩
 | true => exact ⟨cs, t, r, rfl, h2, h3, .inr ⟨h6 rfl, h4⟩⟩
theorem Jhb {s : S} (h : s.n ≠ 0) : s.toList = UInt8.ofNat (s.at 0) :: (s.cut 1 s.n).toList := by
 rw [Jbf s (by omega)]
 have h1 := s.toList_at (i := 0) (by omega)
 have hl : 0 < s.toList.length := by rw [S.len]; omega
 have h2 := List.drop_eq_getElem_cons hl
 rw [List.getElem?_eq_getElem hl] at h1
 rw [List.drop_zero] at h2
 rw [h2]
 simp at h1
 rw [h1]; simp
theorem Jhc {a b : Nat} (ha : a < 256) (hb : b < 256) (h : a ≠ b) : UInt8.ofNat a ≠ UInt8.ofNat b := fun he => by
 have := congrArg UInt8.toNat he
 rw [QU ha, QU hb] at this
 exact h this
variable [Memo] [NY] [NZ]
def Jou [Memo] (gl : Gl) (rb k : Nat) : Prop := ∀ (st : St) (s : S) (bad : Bool), s.n ≤ k → RdB st rb s bad → Says Tryz.prog gl 32 [.ptr rb 0] st fun v st' => NodeQ rb s bad st v st' ∧ RdO rb st st'
set_option maxHeartbeats 8000000 in
set_option maxRecDepth 100000 in
theorem Jlc (gl : Gl) (hg : gl.get 1 = some powV) (hg2 : gl.get 2 = some errS) (hg3 : gl.get 3 = some errR) (rb k : Nat) (hk9 : k ≤ 1000000000) (ih : ∀ k', k' < k → Jou gl rb k') (st : St) (s : S) (bad : Bool) (hs : s.n ≤ k) (hr : RdB st rb s bad) :
  Says Tryz.prog gl 32 [.ptr rb 0] st (fun v st' => NodeQ rb s bad st v st' ∧ RdO rb st st') := by
 refine JS (NY.no _ rfl rfl rfl _ _) Tryz.func32 rfl (by kernel_rfl) fun R hR K gr gn => ?_
 generalize hfr : Jx gl [.ptr rb 0] = fr
 have hF : Fs gl [(0, .ptr rb 0)] fr := by subst hfr; simp [Fs]
 simp only [Fs] at hF
 clear hfr
 have kq := JJ st [.int .u8 0, .str ⟨0, 0⟩, .nils, .nils] 25
 have hb := Qc st [.int .u8 0, .str ⟨0, 0⟩, .nils, .nils] 25
 have bq := QF st [.int .u8 0, .str ⟨0, 0⟩, .nils, .nils] 25
 have cq := QO st [.int .u8 0, .str ⟨0, 0⟩, .nils, .nils] 25
 generalize Q4 st [.int .u8 0, .str ⟨0, 0⟩, .nils, .nils] 25 = q at kq hb bq cq
 have hrb := hr.lt
 have hrq := hr.keep kq
 have l0 := hrq.l0
 have hsm := Jaj s
 refine Ks_ (Ka_ (gs := [none]) fun K1 gK => ?_)
 simp (disch := omega) [JG, Ja, hb]
 refine gK _ _ (Ks_ (Ks_ (Ka_ (gs := [none, none, none, none, none]) fun K1 gK => ?_)))
 simp (disch := omega) [hF, fR0, l0, hsm]
 refine gK _ _ ?_
 by_cases h0 : s.n = 0
 ·
  refine Kt_ (by simp (disch := omega) [h0]) ?_
  obtain ⟨s2, w2, hr2, ho2⟩ := hrq.s1 true
  have b2 : s2.box.get st.ctr = _ := (ho2.box st.ctr (by omega) (by omega)).trans bq
  obtain ⟨s3, w3, b3, o3⟩ := Jah b2 rfl (cs := [.int .u8 0, .str ⟨0, 0⟩, .nils, .nils]) rfl rfl
  have l3 := QZ b3 rfl
  refine Ks_ (Ka_ (gs := [none, none, none, none]) fun K1 gK => ?_)
  simp (disch := omega) [hF, fR1, h0, w2]
  refine gK _ _ (Ks_ (Ka_ (gs := [none, none]) fun K1 gK => ?_))
  simp (disch := omega) [Je, Jc, w3]
  refine gK _ _ (Kq_ (gr _ _ ?_))
  simp [JC, Tryz.f32, hF, l3]
  refine hR _ _ ?_
  exact ⟨NodeQ.mk' (Fresh.leaf (k := 0) (by omega) ⟨0, 0⟩) (Nat.le_refl _) (hr2.only o3 (by omega)) (fun h => by cases h) (fun _ _ => by rw [List.eq_nil_of_length_eq_zero (l := s.toList) (by rw [S.len]; exact h0)]; exact JiX), RdO.only ((RdO.of kq).trans ho2) o3 (Nat.le_refl _)⟩
 ·
  refine Kf_ (by simp (disch := omega) [h0]) ?_
  obtain ⟨c, hc⟩ : ∃ c, s.at 0 = c := ⟨_, rfl⟩
  have hc256 : c < 256 := hc ▸ S.at_lt s 0
  have hix : Jao Tryz.prog 9 (.str s) (.int .i64 0) = some (.int .u8 (c : Int)) := by rw [← hc]; exact Qw (i := 0) Tryz.underlying9 (by omega)
  have hsl := JcG (s := s) (by omega)
  have hht := Jhb h0
  have htn := JeO s 1
  rw [hc] at hht
  generalize s.cut 1 s.n = tl at hsl hht htn
  obtain ⟨s1, w1, hr1, ho1⟩ := hrq.s0 tl
  have hq1 : RdO rb st s1 := (RdO.of kq).trans ho1
  have b1 : s1.box.get st.ctr = _ := (ho1.box st.ctr (by omega) (by omega)).trans bq
  have cs1 := ho1.ctr
  obtain ⟨F, hF1⟩ : ∃ b, decide (c = 102) = b := ⟨_, rfl⟩
  obtain ⟨L, hL1⟩ : ∃ b, decide (c = 108) = b := ⟨_, rfl⟩
  obtain ⟨D, hD1⟩ : ∃ b, decide (c = 100) = b := ⟨_, rfl⟩
  have eF : ∀ kk, Jn Tryz.prog kk .eql 5 (.int .u8 (c : Int)) (.int .u8 102) = some (.bool F) := fun kk => by rw [← hF1]; exact JH
  have eL : ∀ kk, Jn Tryz.prog kk .eql 5 (.int .u8 (c : Int)) (.int .u8 108) = some (.bool L) := fun kk => by rw [← hL1]; exact JH
  have eD : ∀ kk, Jn Tryz.prog kk .eql 5 (.int .u8 (c : Int)) (.int .u8 100) = some (.bool D) := fun kk => by rw [← hD1]; exact JH
  refine Kk_ (Ks_ (Ka_ (gs := [none, none, none, none, none, none]) fun K1 gK => ?_))
  simp (disch := omega) [hF, fR0, l0, h0, hix]
  refine gK _ _ (Ks_ (Ka_ (gs := [none, none, none, none, none, none, none, none, none]) fun K1 gK => ?_))
  simp (disch := omega) [hF, fR0, l0, hsl, w1]
  refine gK _ _ (Ks_ (Ks_ (Ka_ (gs := [none]) fun K1 gK => ?_)))
  simp (disch := omega) []
  refine gK _ _ ?_
  refine Kb_ fun K1 gn1 gx1 go1 => ?_
  have gr1 := fun fr st h => go1 AE.ret fr st trivial (gr fr st h)
  refine Ks_ (Ka_ (gs := [none, none]) fun K1 gK => ?_)
  simp (disch := omega) [eF]
  refine gK _ _ ?_
  cases F with
  | true =>
   refine Kt_ (by simp (disch := omega) []) ?_
   have hc102 := of_decide_eq_true hF1
   obtain ⟨v, s2, hc2, hq2, ho2⟩ := Says.use (Jj2 gl hg hg2 hg3 s1 rb tl bad hr1 (by omega))
   obtain ⟨z, r, bd, rfl, hrn, hr2, hb0, hb1⟩ := hq2.uni
   have b2 : s2.box.get st.ctr = _ := (ho2.box st.ctr (by omega) (by omega)).trans b1
   obtain ⟨s3, w3, b3, o3⟩ := Jah b2 rfl (cs := [.int .u8 1, .str z, .nils, .nils]) rfl rfl
   have l3 := QZ b3 rfl
   have bz := Jmo z
   refine Ks_ (Ka_ (gs := [none, none, none, none]) fun K1 gK => ?_)
   simp (disch := omega) [hF, Jc, hc2, bz, w3]
   refine gK _ _ (Kq_ (gr1 _ _ ?_))
   simp [JC, Tryz.f32, hF, l3]
   refine hR _ _ ?_
   refine ⟨NodeQ.mk' (Fresh.leaf (k := 1) (by omega) z) (by omega) (hr2.only o3 (by omega)) (fun h => ?_) (fun h h' => ?_), RdO.only (hq1.trans ho2) o3 (Nat.le_refl _)⟩
   ·obtain ⟨a1, a2, a3⟩ := hb0 h
    exact ⟨a1, .leaf 1 z (.inl rfl) a2, by rw [hht, hc102, a3, Jaw (.inl rfl)]; rfl⟩
   ·rw [hht, hc102]; exact Jdn (k := 1) (.inl rfl) (hb1 h h')
  | false =>
   refine Kf_ (by simp (disch := omega) []) ?_
   have hn102 := of_decide_eq_false hF1
   refine Ks_ (Ka_ (gs := [none, none]) fun K1 gK => ?_)
   simp (disch := omega) [eL]
   refine gK _ _ ?_
   cases L with
   | true =>
    refine Kt_ (by simp (disch := omega) []) ?_
    have hc108 := of_decide_eq_true hL1
    obtain ⟨v, s2, hc2, hq2, ho2⟩ := Says.use (Jj2 gl hg hg2 hg3 s1 rb tl bad hr1 (by omega))
    obtain ⟨z, r, bd, rfl, hrn, hr2, hb0, hb1⟩ := hq2.uni
    have b2 : s2.box.get st.ctr = _ := (ho2.box st.ctr (by omega) (by omega)).trans b1
    obtain ⟨s3, w3, b3, o3⟩ := Jah b2 rfl (cs := [.int .u8 3, .str z, .nils, .nils]) rfl rfl
    have l3 := QZ b3 rfl
    have bz := JoN z
    refine Ks_ (Ka_ (gs := [none, none, none, none]) fun K1 gK => ?_)
    simp (disch := omega) [hF, Jc, hc2, bz, w3]
    refine gK _ _ (Kq_ (gr1 _ _ ?_))
    simp [JC, Tryz.f32, hF, l3]
    refine hR _ _ ?_
    refine ⟨NodeQ.mk' (Fresh.leaf (k := 3) (by omega) z) (by omega) (hr2.only o3 (by omega)) (fun h => ?_) (fun h h' => ?_), RdO.only (hq1.trans ho2) o3 (Nat.le_refl _)⟩
    ·obtain ⟨a1, a2, a3⟩ := hb0 h
     exact ⟨a1, .leaf 3 z (.inr rfl) a2, by rw [hht, hc108, a3, Jaw (.inr rfl)]; rfl⟩
    ·rw [hht, hc108]; exact Jdn (k := 3) (.inr rfl) (hb1 h h')
   | false =>
    refine Kf_ (by simp (disch := omega) []) ?_
    have hn108 := of_decide_eq_false hL1
    refine Ks_ (Ka_ (gs := [none, none]) fun K1 gK => ?_)
    simp (disch := omega) [eD]
    refine gK _ _ ?_
    cases D with
    | true =>
     refine Kt_ (by simp (disch := omega) []) ?_
     have hc100 := of_decide_eq_true hD1
     rw [hc100] at hht
     have hht : s.toList = 100 :: tl.toList := hht
     have ku := JJ s1 [.int .u8 0, .str ⟨0, 0⟩, .nils, .nils] 25
     have eu := Qc s1 [.int .u8 0, .str ⟨0, 0⟩, .nils, .nils] 25
     have bu := QF s1 [.int .u8 0, .str ⟨0, 0⟩, .nils, .nils] 25
     have cu := QO s1 [.int .u8 0, .str ⟨0, 0⟩, .nils, .nils] 25
     generalize Q4 s1 [.int .u8 0, .str ⟨0, 0⟩, .nils, .nils] 25 = u at ku eu bu cu
     obtain ⟨u2, wu, bu2, ou⟩ := Jah bu rfl (cs := [.int .u8 2, .str ⟨0, 0⟩, .nils, .nils]) rfl rfl
     have cu2 := ou.ctr
     have hru := (hr1.keep ku).only ou (by omega)
     have hou : RdO rb s1 u2 := RdO.only (RdO.of ku) ou (Nat.le_refl _)
     have hm0 : NMk s1 u2 s1.ctr .nils .nils [] [] [] := ⟨bu2, by omega, Nat.le_refl _, .nils, .nils, fun h => h, fun h => h, fun _ h => h.elim, rfl, fun _ => False, fun _ h => h.elim, fun i h => by simp at h⟩
     obtain ⟨v, u3, hc3, hq3, ho3⟩ := Says.use (Jm8 gl hg hg2 hg3 u2 rb tl bad hru (by omega))
     obtain ⟨n, r, bd, rfl, hn6, hrn, hr3, hb0, hb1⟩ := hq3.uni
     have hm3 := hm0.out ho3.ctr (fun i h1 h2 => ho3.box i h2 (by omega))
     have hou3 : RdO rb s1 u3 := hou.trans ho3
     have hD0 : bd = false → bad = false ∧ DirTo s.toList n [] [] r.toList := fun h => by
      obtain ⟨a1, a2⟩ := hb0 h
      exact ⟨a1, ⟨by rw [hht, a2.2]; simp [Jak], rfl, hn6, fun _ h => (by cases h), fun _ h => (by cases h)⟩⟩
     have hD2 : bd = true → bad = false → JcV s.toList := fun h h' => by rw [hht]; exact JiY (hb1 h h')
     refine Ks_ (Ka_ (gs := [none, none, none]) fun K1 gK => ?_)
     simp (disch := omega) [JG, Ja, Jc, JhI, eu, wu, Jh, Jf, Jg]
     refine gK _ _ (Ks_ (Ks_ (Ka_ (gs := [none, none, none]) fun K1 gK => ?_)))
     simp (disch := omega) [hF, hc3]
     refine gK _ _ ?_
     refine Kl_ (n) (fun i fr st' => ∃ (nv kv : V) (css : List (List V)) (names : List S) (kids : List Nt) (r : S) (bd : Bool), Fs gl [(0, .ptr rb 0), (2, .ptr st.ctr 0), (4, .ptr s1.ctr 0), (42, .int .i64 (n : Int)), (43, .int .i64 (i : Int))] fr ∧ i ≤ n ∧ names.length = i ∧ kids.length = i ∧ NMk s1 st' s1.ctr nv kv names css kids ∧ RdB st' rb r bd ∧ RdO rb s1 st' ∧ r.n ≤ tl.n ∧ (bd = false → bad = false ∧ DirTo s.toList n names kids r.toList) ∧ (bd = true → bad = false → JcV s.toList)) (0) (fun fr st' => ∃ (nv kv : V) (names : List S) (kids : List Nt) (r : S) (bd : Bool), Fs gl [(2, .ptr st.ctr 0), (4, .ptr s1.ctr 0)] fr ∧ (∃ css, NMk s1 st' s1.ctr nv kv names css kids) ∧ RdB st' rb r bd ∧ RdO rb s1 st' ∧ r.n ≤ tl.n ∧ (bd = false → names.length = n ∧ bad = false ∧ DirTo s.toList n names kids r.toList) ∧ (bd = true → bad = false → JcV s.toList)) ?_ ?_ ?_ ?_
     ·exact ⟨.nils, .nils, [], [], [], r, bd, by simp [Fs, hF], Nat.zero_le _, rfl, rfl, hm3, hr3, hou3, hrn, hD0, hD2⟩
     ·rintro i fr st' ⟨nv, kv, css, names, kids, r, bd, _, hi, hnl, hkl, hm, hrr, hoo, hrl, hd0, hd1⟩
      omega
     ·as_aux_lemma =>
      clear hF
      rintro i fr st' ⟨nv, kv, css, names, kids, r, bd, hF, hi, hnl, hkl, hm, hrr, hoo, hrl, hd0, hd1⟩ K2 gk2 gx2 go2
      simp only [Fs] at hF
      refine Ks_ (Ka_ (gs := [none]) fun K1 gK => ?_)
      simp (disch := omega) [hF]
      refine gK _ _ (Ks_ ?_)
      by_cases hlt : i < n
      ·
       refine Kt_ (by simp (disch := omega) [hlt]) ?_
       have lb := hrr.l1
       refine Kk_ (Ks_ ?_)
       refine Kb_ fun K3 gn3 gx3 go3 => ?_
       have gx3_1 := fun fr st h => go3 (AE.exit 1) fr st (show (1 : Nat) ≠ 2 by decide) (gx2 fr st h)
       refine Ks_ (Ks_ (Ka_ (gs := [none, none, none, none]) fun K1 gK => ?_))
       simp (disch := omega) [hF, fR1, hlt, lb]
       refine gK _ _ ?_
       cases bd with
       | true =>
        refine Kt_ (by simp (disch := omega) []) ?_
        exact Kx_ (gx3_1 _ _ ⟨nv, kv, names, kids, r, true, by simp [Fs, hF], ⟨css, hm⟩, hrr, hoo, hrl, (fun h => by cases h), hd1⟩)
       | false =>
        refine Kf_ (by simp (disch := omega) []) ?_
        obtain ⟨hbad, hdir⟩ := hd0 rfl
        have cst := hoo.ctr
        obtain ⟨q1, hq1', kq1, cq1⟩ := Jcb st' 8
        obtain ⟨v, s2, hc2, hq2, ho2⟩ := Says.use (Jj2 gl hg hg2 hg3 q1 rb r false (hrr.keep kq1) (by omega))
        obtain ⟨z, r1, bd1, rfl, hrn1, hr2, hz0, hz1⟩ := hq2.uni
        have cs2 := ho2.ctr
        have bs := Jpy z
        obtain ⟨q, hpp, hqc, hqi, hqo⟩ := JoO s2 (st'.ctr + 4) (.cells [.str z] 9 true (some 0))
        have hst2 : ∀ j, j < st'.ctr → j ≠ rb → q.box.get j = st'.box.get j := fun j hj hn => by rw [hqo j (by omega), ho2.box j (by omega) hn, kq1.box j hj]
        obtain ⟨nv', u1, u2, ha, hu, hm2, hcu, hlow2, _, _⟩ := hm.name z (id := st'.ctr + 4) (by omega) (q := q) (by omega) (by omega) (fun j h1 h2 => hst2 j h2 (by omega)) hqi (by omega)
        have hr4 : RdB u2 rb r1 bd1 := ⟨by rw [hlow2 rb (by omega), hqo rb (by omega)]; exact hr2.b, by omega⟩
        have hvn : veq 1000000000 nv nv = true := Qz _ (by have := hm.hn.vsz'; omega)
        have hvk : veq 1000000000 kv kv = true := Qz _ (by have := hm.hs.vsz'; omega)
        have ln : ∀ {s' : St}, s'.box.get s1.ctr = some (.cells [.int .u8 2, .str ⟨0, 0⟩, nv, kv] 25 true (some 0)) → Qe Tryz.prog s' 22 (.ptr s1.ctr 2) = some nv := fun h => Qd (off := 2) Jju JhC h rfl
        have ln1 := ln ((kq1.box s1.ctr hm.lt).trans hm.b)
        have ln2 := ln ((ho2.box s1.ctr (by have := hm.lt; omega) (by omega)).trans ((kq1.box s1.ctr hm.lt).trans hm.b))
        have ln3 := ln ((hqo s1.ctr (by have := hm.lt; omega)).trans ((ho2.box s1.ctr (by have := hm.lt; omega) (by omega)).trans ((kq1.box s1.ctr hm.lt).trans hm.b)))
        obtain ⟨q2, hq2', kq2, cq2⟩ := Jcb u2 8
        obtain ⟨v, s3, hc3, hq3, ho3⟩ := Says.use (ih (tl.n) (by omega) q2 r1 bd1 (by omega) (hr4.keep kq2))
        obtain ⟨cs, t, r2, bd2, rfl, hfr, hrn2, hr5, ht0, ht1⟩ := hq3.uni
        have cs3 := ho3.ctr
        obtain ⟨B, hB1, hB2⟩ := hfr
        have hcl := hB1.nr.len
        have hco := hB1.nr.ones
        have hcv := hB1.nr.veq
        have bs3 := Jot hcl hco
        obtain ⟨p, hpp2, hpc, hpi, hpo⟩ := JoO s3 (u2.ctr + 4) (.cells cs 25 true (some 0))
        have hst3 : ∀ j, j < u2.ctr → j ≠ rb → p.box.get j = u2.box.get j := fun j hj hn => by rw [hpo j (by omega), ho3.box j (by omega) hn, kq2.box j hj]
        obtain ⟨kv', w1, w2, ha2, hu2, hm4, hcw, hlow4⟩ := hm2.kid (id := u2.ctr + 4) (by omega) (q := p) (by omega) (by omega) (fun j h1 h2 => hst3 j h2 (by omega)) hpi (hB1.stab (by omega) fun j hj => hpo j (by have := hB2 j hj; omega)) (fun j hj => by have := hB2 j hj; omega) (by omega)
        have lk : ∀ {s' : St}, s'.box.get s1.ctr = some (.cells [.int .u8 2, .str ⟨0, 0⟩, nv', kv] 25 true (some 0)) → Qe Tryz.prog s' 23 (.ptr s1.ctr 3) = some kv := fun h => Qd (off := 3) JoI JnB h rfl
        have lk1 := lk ((kq2.box s1.ctr hm2.lt).trans hm2.b)
        have lk2 := lk ((ho3.box s1.ctr (by have := hm2.lt; omega) (by omega)).trans ((kq2.box s1.ctr hm2.lt).trans hm2.b))
        have lk3 := lk ((hpo s1.ctr (by have := hm2.lt; omega)).trans ((ho3.box s1.ctr (by have := hm2.lt; omega) (by omega)).trans ((kq2.box s1.ctr hm2.lt).trans hm2.b)))
        have hr6 : RdB w2 rb r2 bd2 := ⟨by rw [hlow4 rb (by omega), hpo rb (by omega)]; exact hr5.b, by omega⟩
        have hoo4 : RdO rb s1 w2 := ⟨by omega, fun j hj hn => by
         rw [hlow4 j hj, hpo j (by omega), ho3.box j (by omega) hn, kq2.box j (by omega), hlow2 j hj, hqo j (by omega), ho2.box j (by omega) hn, kq1.box j (by omega), hoo.box j hj hn]⟩
        refine Kk_ (Ks_ ?_)
        refine DoK.drawP (b := [0, 1, 0, 4, 12, 31, 63, 127]) (rs := [(2, 2), (0, 2), (4, 4)]) (gs := [none, none, none, none, none, none, none, none]) (by kernel_rfl) (by kernel_rfl) (by kernel_rfl) (by kernel_rfl) (by kernel_rfl) fun K1 gK => ?_
        simp only [Jac, Jb2, List.drop_zero, List.drop_succ_cons, List.take_succ_cons, List.take_zero, List.cons_append, List.nil_append]
        simp (disch := omega) [hF, Jc, Jf, hq1', hc2, bs, hpp, ha, hu, hvn, ln1, ln2, gN2]
        refine gK _ _ ?_
        refine DoK.drawP (b := [0, 1, 0, 4, 12, 31, 63, 127]) (rs := [(2, 2), (0, 2), (4, 4)]) (gs := [none, none, none, none, none, none, none, none]) (by kernel_rfl) (by kernel_rfl) (by kernel_rfl) (by kernel_rfl) (by kernel_rfl) fun K1 gK => ?_
        simp only [Jac, Jb2, List.drop_zero, List.drop_succ_cons, List.take_succ_cons, List.take_zero, List.cons_append, List.nil_append]
        simp (disch := omega) [hF, Jc, hvk, gN3, hq2', hc3, bs3, hpp2, ha2, hu2, lk1, lk2, hco]
        refine gK _ _ (gn3 _ _ (Ka_ (gs := [none, none]) fun K1 gK => ?_))
        simp (disch := omega) [hF]
        refine gK _ _ ?_
        refine gk2 (i + 1) _ _ (by omega) ⟨nv', kv', css ++ [cs], names ++ [z], kids ++ [t], r2, bd2, by simp [Fs, hF], by omega, (by simp; omega), (by simp; omega), hm4, hr6, hoo4, by omega, (fun h => by obtain ⟨a1, a2, a3⟩ := ht0 h; obtain ⟨b1, b2, b3⟩ := hz0 a1; exact ⟨hbad, hdir.step b2 a2 b3 a3⟩), (fun h _ => by cases bd1 with | true => exact hdir.no_part (by omega) (hz1 rfl rfl) | false => exact hdir.no_node (by omega) (hz0 rfl).2.2 (ht1 h rfl))⟩
      ·
       refine Kf_ (by simp (disch := omega) [hlt]) ?_
       exact Kx_ (gx2 _ _ ⟨nv, kv, names, kids, r, bd, by simp [Fs, hF, hlt], ⟨css, hm⟩, hrr, hoo, hrl, (fun h => ⟨by omega, hd0 h⟩), hd1⟩)
     ·as_aux_lemma =>
      clear hF
      rintro fr st' ⟨nv, kv, names, kids, r, bd, hF, ⟨css, hm⟩, hrr, hoo, hrl, hd0, hd1⟩
      simp only [Fs] at hF
      have cst := hoo.ctr
      have lr := QZ hm.b rfl
      have b2 : st'.box.get st.ctr = _ := (hoo.box st.ctr (by omega) (by omega)).trans b1
      obtain ⟨s3, w3, b3, o3⟩ := Jah b2 rfl (cs := [.int .u8 2, .str ⟨0, 0⟩, nv, kv]) rfl (by simp only [List.all_cons, hm.hn.one, hm.hs.sv.one]; rfl)
      have l3 := QZ b3 rfl
      refine Ks_ (Ka_ (gs := [none, none]) fun K1 gK => ?_)
      simp (disch := omega) [hF, lr, w3]
      refine gK _ _ (Kq_ (gr1 _ _ ?_))
      simp [JC, Tryz.f32, hF, l3]
      refine hR _ _ ?_
      refine ⟨NodeQ.mk' ((hm.fresh.stab o3.ctr fun j h1 h2 => o3.box j (by omega)).from (by omega)) (by omega) (hrr.only o3 (by omega)) (fun h => ?_) hd1, RdO.only (hq1.trans hoo) o3 (Nat.le_refl _)⟩
      obtain ⟨a1, a2, a3⟩ := hd0 h
      exact ⟨a2, a3.fin a1 _ rfl⟩
    | false =>
     refine Kf_ (by simp (disch := omega) []) ?_
     have hn100 := of_decide_eq_false hD1
     obtain ⟨s2, w2, hr2, ho2⟩ := hr1.s1 true
     have b2 : s2.box.get st.ctr = _ := (ho2.box st.ctr (by omega) (by omega)).trans b1
     obtain ⟨s3, w3, b3, o3⟩ := Jah b2 rfl (cs := [.int .u8 0, .str ⟨0, 0⟩, .nils, .nils]) rfl rfl
     have l3 := QZ b3 rfl
     refine Kk_ (gn1 _ _ (Ks_ (Ka_ (gs := [none, none, none, none]) fun K1 gK => ?_)))
     simp (disch := omega) [hF, fR1, w2]
     refine gK _ _ (Ks_ (Ka_ (gs := [none, none]) fun K1 gK => ?_))
     simp (disch := omega) [Je, Jc, w3]
     refine gK _ _ (Kq_ (gr _ _ ?_))
     simp [JC, Tryz.f32, hF, l3]
     refine hR _ _ ?_
     refine ⟨NodeQ.mk' (Fresh.leaf (k := 0) (by omega) ⟨0, 0⟩) (by omega) (hr2.only o3 (by omega)) (fun h => by cases h) (fun _ _ => ?_), RdO.only (hq1.trans ho2) o3 (Nat.le_refl _)⟩
     rw [hht]
     exact Jhm (Jhc (b := 102) hc256 (by decide) hn102) (Jhc (b := 108) hc256 (by decide) hn108) (Jhc (b := 100) hc256 (by decide) hn100)
end Go.Vm
