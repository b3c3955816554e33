/- Numbers as digits: formatBase10, for numbers of three to six digits. -/
import Derived.Test.YtphinjijaglokaaGreatDoorSzE
import Derived.Test.YtphinjijaglokaaGreatDoorSz4
import Derived.Test.YtphinjijaglokaaGreatDoorSzD
namespace Go.Vm
open Go Go.Proofs Go.Pa
attribute [local simp] OkP QH OkS Qi OkG Qh Qp OkD JY Qr JI Jm Jq vop Js JB ev evs toV Jl Fr.dsTo Fr.glTo Fr.toNone Ji Jj Jk Qk QL Jd JD Jv V.undef JW JM J7 JX J3 J9 J8 Qa JH J4 J5 JZ JO Qb Jt Ju Jw Jz JE Jr JL JN JK Qq
theorem Jho : ∀ (d n : Nat), n < d → ∀ e, n < e → JdE d n = JdE e n
 | 0, _, h, _, _ => by omega
 | _, _, _, 0, h => by omega
 | d + 1, n, h, e + 1, h2 => by
  unfold JdE
  by_cases h0 : n / 10 = 0
  ·rw [if_pos h0, if_pos h0]
  ·rw [if_neg h0, if_neg h0, Jho d (n / 10) (by omega) e (by omega)]
theorem Ja4 {n : Nat} (h : n < 10) : QW n = [UInt8.ofNat (48 + n)] := by
 unfold QW JdE
 rw [if_pos (by omega), Nat.mod_eq_of_lt h]; rfl
theorem QG {n : Nat} (h : 10 ≤ n) : QW n = QW (n / 10) ++ [UInt8.ofNat (48 + n % 10)] := by
 unfold QW
 rw [show JdE (n + 1) n = (if n / 10 = 0 then [] else JdE n (n / 10)) ++ [UInt8.ofNat (48 + n % 10)] from rfl, if_neg (by omega), Jho n (n / 10) (by omega) (n / 10 + 1) (by omega)]
theorem QU {n : Nat} (h : n < 256) : (UInt8.ofNat n).toNat = n := by simp; omega
structure Only (id : Nat) (st st' : St) : Prop where
 ctr : st.ctr ≤ st'.ctr
 box : ∀ j, j ≠ id → st'.box.get j = st.box.get j
theorem Only.refl (id : Nat) (st : St) : Only id st st := ⟨Nat.le_refl _, fun _ _ => rfl⟩
theorem Only.tick (id : Nat) (st : St) (n : Nat) : Only id st { ctr := st.ctr + n, box := st.box } := ⟨Nat.le_add_right _ _, fun _ _ => rfl⟩
theorem Only.trans {id : Nat} {a b c : St} (h : Only id a b) (k : Only id b c) : Only id a c := ⟨Nat.le_trans h.ctr k.ctr, fun j hj => (k.box j hj).trans (h.box j hj)⟩
theorem JaJ {st : St} {id off : Nat} {cs : List V} {e : TypeId} {fl : Bool} (hb : st.box.get id = some (.cells cs e fl (some 0))) (ho : off < cs.length) (c : Nat) :
  ∃ st', Q0 Tryz.prog st 5 (.ptr id off) (.int .u8 (c : Int)) = some st' ∧ st'.box.get id = some (.cells (cs.set off (.int .u8 (c : Int))) e fl (some 0)) ∧ Only id st st' :=
 ⟨_, QR z5 hb ho rfl, by show (st.box.put id _).get id = _; rw [Tr.get_put, if_pos rfl], Nat.le_refl _, fun j hj => by show (st.box.put id _).get j = _; rw [Tr.get_put, if_neg hj]⟩
def Jqa (s : S) : Prop := ∀ x : Nat, x < 100 → Jao Tryz.prog 9 (.str s) (.int .u32 ((x * 2 : Nat) : Int)) = some (.int .u8 ((48 + x / 10 : Nat) : Int)) ∧ Jao Tryz.prog 9 (.str s) (.int .u32 ((x * 2 + 1 : Nat) : Int)) = some (.int .u8 ((48 + x % 10 : Nat) : Int))
theorem JpQ : Jqa sm2 := fun x hx => by
 have hl : sm2.n = 200 := by kernel_rfl
 have h2 : ((List.range 100).all fun x => Nat.beq (sm2.at (x * 2)) (48 + x / 10) && Nat.beq (sm2.at (x * 2 + 1)) (48 + x % 10)) = true := by kernel_rfl
 have h3 := List.all_eq_true.1 h2 x (List.mem_range.2 hx)
 simp only [Bool.and_eq_true] at h3
 obtain ⟨h4, h5⟩ := h3
 constructor
 ·rw [Qw Tryz.underlying9 (by rw [hl]; omega), Nat.eq_of_beq_eq_true h4]
 ·rw [Qw Tryz.underlying9 (by rw [hl]; omega), Nat.eq_of_beq_eq_true h5]
theorem Jch {x : Nat} (hx : x < 100) : ∃ m m1 : Nat, (∀ kk, Jn Tryz.prog kk .mul 97 (.int .u32 (x : Int)) (.int .u32 2) = some (.int .u32 (m : Int))) ∧ IntKind.u32.wrap ((m : Int) + 1) = (m1 : Int) ∧
  Jao Tryz.prog 9 (.str sm2) (.int .u32 (m : Int)) = some (.int .u8 ((48 + x / 10 : Nat) : Int)) ∧ Jao Tryz.prog 9 (.str sm2) (.int .u32 (m1 : Int)) = some (.int .u8 ((48 + x % 10 : Nat) : Int)) :=
 ⟨x * 2, x * 2 + 1, fun kk => by rw [Qs, Jbk (by omega) (by omega)]; rfl, by rw [Jbk (by omega) (by omega)]; rfl, (JpQ x hx).1, (JpQ x hx).2⟩
theorem Jfl {a b c : Nat} (hb : 0 < b) (h : a % b = c) (kk : Bool) : Jn Tryz.prog kk .rem 97 (.int .u32 (a : Int)) (.int .u32 (b : Int)) = some (.int .u32 (c : Int)) := by
 rw [JfZ (by omega), ← h]; rfl
theorem Jfm {a b c : Nat} (hb : 0 < b) (ha : a < 4294967296) (h : a / b = c) (kk : Bool) : Jn Tryz.prog kk .quo 97 (.int .u32 (a : Int)) (.int .u32 (b : Int)) = some (.int .u32 (c : Int)) := by
 have hc : c ≤ a := by rw [← h]; exact Nat.div_le_self _ _
 rw [Jd5 (by omega), show (a : Int).tdiv (b : Int) = ((a / b : Nat) : Int) from rfl, h, Jbk (by omega) (by omega)]
theorem nit {off n i : Nat} {cap : Option Nat} {id : Nat} (h : i < n) : Jo Tryz.prog 40 (.ms id off n 1 cap) (.int .i64 (i : Int)) = some (.ptr id (off + i)) := by
 have := Jdv (P := Tryz.prog) (t := 40) (id := id) (off := off) (z := 1) (cap := cap) (k := .i64) Tryz.underlying40 z5 h
 rwa [Nat.mul_one] at this
def Jnj (id : Nat) (n : Nat) (u : Nat) (e : TypeId) (fl : Bool) (st : St) (v : V) (st' : St) : Prop := v = .tup [] ∧ Only id st st' ∧ ∃ cs', st'.box.get id = some (.cells cs' e fl (some 0)) ∧ cs'.length = n ∧ sub cs' 1 (digN u) = JQ (QW u)
variable [Memo] [NY]
set_option maxHeartbeats 4000000 in
set_option maxRecDepth 100000 in
theorem Jqb (gl : Gl) (st : St) (u : Nat) (h1 : 256 ≤ u) (h2 : u < 1000) (id : Nat) (cap : Option Nat) (a b1 b2 b3 b4 b5 b6 : V) (r : List V) (e : TypeId) (fl : Bool) (hb : st.box.get id = some (.cells (a :: b1 :: b2 :: b3 :: b4 :: b5 :: b6 :: r) e fl (some 0))) :
  Says Tryz.prog gl 73 [.ms id 1 3 1 cap, .int .u64 (u : Int)] st (fun v st' => Jnj id (r.length + 7) u e fl st v st') := by
 refine JS (NY.no _ rfl rfl rfl _ _) Tryz.func73 rfl (by kernel_rfl) fun R hR K gr gn => ?_
 generalize hfr : Jx gl [.ms id 1 3 1 cap, .int .u64 (u : Int)] = fr
 have hF : Fs gl [(0, .ms id 1 3 1 cap), (1, .int .u64 (u : Int))] fr := by subst hfr; simp [Fs]
 simp only [Fs] at hF
 clear hfr
 have hlen : Jab Tryz.prog 40 (.ms id 1 3 1 cap) = some (.int .i64 3) := by simp only [Jab, Tryz.underlying40]; rfl
 have cv : ∀ st, QJ Tryz.prog st 87 97 (.int .u64 (u : Int)) = some (.int .u32 (u : Int)) := fun st => by rw [Q5 Tryz.underlying87 Tryz.underlying97, Jbk (by omega) (by omega)]
 generalize hl : ByteArray.mk _ = lit
 have htv : S.ofList lit.data.toList = sm2 := by rw [← hl]; kernel_rfl
 clear hl
 refine Ks_ (Ka_ (gs := [none, none, none]) fun K1 gK => ?_)
 simp (disch := omega) [hF, hlen]
 refine gK _ _ (Ks_ ?_)
 refine Kl_ (0) (fun i fr st' => Fs gl [(0, .ms id 1 3 1 cap), (1, .int .u64 (u : Int)), (4, .int .i64 3)] fr ∧ i ≤ 0 ∧ st = st') (0) (fun fr st' => Fs gl [(0, .ms id 1 3 1 cap), (1, .int .u64 (u : Int)), (4, .int .i64 3)] fr ∧ st = st') ?_ ?_ ?_ ?_
 ·exact ⟨by simp [Fs, hF], Nat.le_refl _, rfl⟩
 ·rintro i fr st' ⟨_, hi, rfl⟩
  omega
 ·
  clear hF
  rintro i fr st' ⟨hF, hi, rfl⟩ K1 gk1 gx1 go1
  simp only [Fs] at hF
  refine Ks_ (Ks_ (Ka_ (gs := [none, none]) fun K1 gK => ?_))
  simp (disch := omega) [hF]
  refine gK _ _ (Kf_ (by simp (disch := omega) []) ?_)
  exact Kx_ (gx1 _ _ ⟨by simp [Fs, hF], rfl⟩)
 ·
  clear hF
  rintro fr st' ⟨hF, rfl⟩
  simp only [Fs] at hF
  refine Ks_ (Ka_ (gs := [none, none, none]) fun K1 gK => ?_)
  simp (disch := omega) [hF, cv]
  refine gK _ _ (Ks_ (Ks_ (Ka_ (gs := [none, none]) fun K1 gK => ?_)))
  simp (disch := omega) [hF]
  refine gK _ _ (Kf_ (by simp (disch := omega) []) (Kk_ (Ks_ (Ks_ (Ka_ (gs := [none, none]) fun K1 gK => ?_)))))
  simp (disch := omega) [hF]
  refine gK _ _ ?_
  obtain ⟨v5, hv5⟩ : ∃ v : Nat, u % 100 = v := ⟨_, rfl⟩
  obtain ⟨y5, hy5⟩ : ∃ v : Nat, u / 100 = v := ⟨_, rfl⟩
  have f1 : ∀ kk, Jn Tryz.prog kk .rem 97 (.int .u32 (u : Int)) (.int .u32 100) = some (.int .u32 (v5 : Int)) := Jfl (by decide) hv5
  have f2 : ∀ kk, Jn Tryz.prog kk .quo 97 (.int .u32 (u : Int)) (.int .u32 100) = some (.int .u32 (y5 : Int)) := Jfm (by decide) (by omega) hy5
  obtain ⟨m1, mm1, mu1, wr1, ia1, ib1⟩ := Jch (x := v5) (by omega)
  obtain ⟨c1, hc1⟩ : ∃ c : Nat, 48 + v5 / 10 = c := ⟨_, rfl⟩
  obtain ⟨d1, hd1⟩ : ∃ c : Nat, 48 + v5 % 10 = c := ⟨_, rfl⟩
  rw [hc1] at ia1
  rw [hd1] at ib1
  obtain ⟨q1, w1, hb1, o1⟩ := JaJ (st := { ctr := st.ctr + 15, box := st.box }) hb (off := 3) (by simp) d1
  simp only [List.set_cons_succ, List.set_cons_zero] at hb1
  obtain ⟨q2, w2, hb2, o2⟩ := JaJ (st := q1) hb1 (off := 2) (by simp) c1
  simp only [List.set_cons_succ, List.set_cons_zero] at hb2
  have n2_2 : ∀ cap, Jo Tryz.prog 40 (.ms id 1 3 1 cap) (.int .i64 2) = some (.ptr id 3) := fun cap => by have := nit (off := 1) (n := 3) (i := 2) (cap := cap) (id := id) (by decide); rw [show 1 + 2 = 3 from rfl] at this; exact this
  have n2_1 : ∀ cap, Jo Tryz.prog 40 (.ms id 1 3 1 cap) (.int .i64 1) = some (.ptr id 2) := fun cap => by have := nit (off := 1) (n := 3) (i := 1) (cap := cap) (id := id) (by decide); rw [show 1 + 1 = 2 from rfl] at this; exact this
  refine Kt_ (by simp (disch := omega) []) (Ks_ (Ka_ (gs := [none, none, none, none]) fun K1 gK => ?_))
  simp (disch := omega) [f1, mu1]
  refine gK _ _ (Ks_ (Ka_ (gs := [none, none, none]) fun K1 gK => ?_))
  simp (disch := omega) [f2]
  refine gK _ _ (Ks_ ?_)
  refine Kn_ (fun fr => Fs gl [(0, .ms id 1 3 1 cap), (4, .int .i64 3), (12, .int .u32 (y5 : Int)), (16, .int .u32 (m1 : Int))] fr) (by simp [Fs, hF]) ?_
  clear hF
  rintro fr hF
  simp only [Fs] at hF
  refine DoK.drawP (b := [0, 0, 2, 0, 0, 16, 0, 64, 192, 0, 512, 455, 2503, 8191, 16383]) (rs := [(0, 3), (6, 3), (11, 2), (3, 3), (9, 2), (13, 2)]) (gs := [none, none, none, none, none, none, none, none, none, none, none, none, none, none, none]) (by kernel_rfl) (by kernel_rfl) (by kernel_rfl) (by kernel_rfl) (by kernel_rfl) fun K1 gK => ?_
  simp only [Jac, Jb2, List.drop_zero, List.drop_succ_cons, List.take_succ_cons, List.take_zero, List.cons_append, List.nil_append]
  simp (disch := omega) [hF, htv, wr1, ia1, ib1, w1, w2, n2_2, n2_1]
  refine gK _ _ ?_
  refine Kn_ (fun fr => Fs gl [(0, .ms id 1 3 1 cap), (4, .int .i64 3), (12, .int .u32 (y5 : Int))] fr) (by simp [Fs, hF]) ?_
  clear hF
  rintro fr hF
  simp only [Fs] at hF
  refine Ka_ (gs := [none, none, none]) fun K1 gK => ?_
  simp (disch := omega) [hF]
  refine gK _ _ (Ks_ (Ka_ (gs := [none, none]) fun K1 gK => ?_))
  simp (disch := omega) []
  refine gK _ _ ?_
  obtain ⟨c9, hc9⟩ : ∃ c : Nat, 48 + y5 = c := ⟨_, rfl⟩
  have g1 : IntKind.u32.wrap (48 + (y5 : Int)) = (c9 : Int) := by rw [Jbk (by omega) (by omega)]; omega
  have g2 : ∀ st, QJ Tryz.prog st 97 5 (.int .u32 (c9 : Int)) = some (.int .u8 (c9 : Int)) := fun st => by rw [Q5 Tryz.underlying97 Tryz.underlying5, Ja6 (by omega) (by omega)]
  obtain ⟨q3, w3, hb3, o3⟩ := JaJ (st := q2) hb2 (off := 1) (by simp) c9
  simp only [List.set_cons_succ, List.set_cons_zero] at hb3
  have n3_0 : ∀ cap, Jo Tryz.prog 40 (.ms id 1 3 1 cap) (.int .i64 0) = some (.ptr id 1) := fun cap => by have := nit (off := 1) (n := 3) (i := 0) (cap := cap) (id := id) (by decide); rw [show 1 + 0 = 1 from rfl] at this; exact this
  refine Kt_ (by simp (disch := omega) []) (Ka_ (gs := [none, none, none, none, none, none]) fun K1 gK => ?_)
  simp (disch := omega) [hF, g1, g2, w3, n3_0]
  refine gK _ _ (gn _ _ ?_)
  simp [JC, Tryz.f73, hF]
  refine hR _ _ ?_
  have hdn : digN u = 3 := by unfold digN; (repeat' split) <;> omega
  refine ⟨rfl, (((((Only.refl _ _).trans (Only.tick _ st 15)).trans o1).trans o2).trans o3), _, hb3, by simp, ?_⟩
  rw [hdn, QG (n := u) (by omega), QG (n := (u / 10)) (by omega), Ja4 (n := ((u / 10) / 10)) (by omega)]
  simp only [sub, List.drop_succ_cons, List.drop_zero, List.take_succ_cons, List.take_zero, JQ, List.map_cons, List.map_nil, List.cons_append, List.nil_append]
  rw [QU (n := 48 + ((u / 10) / 10)) (by omega)]
  rw [QU (n := 48 + (u / 10) % 10) (by omega)]
  rw [QU (n := 48 + u % 10) (by omega)]
  simp only [List.cons.injEq, V.int.injEq, true_and, and_true]
  omega
set_option maxHeartbeats 4000000 in
set_option maxRecDepth 100000 in
theorem Jqc (gl : Gl) (st : St) (u : Nat) (h1 : 1000 ≤ u) (h2 : u < 10000) (id : Nat) (cap : Option Nat) (a b1 b2 b3 b4 b5 b6 : V) (r : List V) (e : TypeId) (fl : Bool) (hb : st.box.get id = some (.cells (a :: b1 :: b2 :: b3 :: b4 :: b5 :: b6 :: r) e fl (some 0))) :
  Says Tryz.prog gl 73 [.ms id 1 4 1 cap, .int .u64 (u : Int)] st (fun v st' => Jnj id (r.length + 7) u e fl st v st') := by
 refine JS (NY.no _ rfl rfl rfl _ _) Tryz.func73 rfl (by kernel_rfl) fun R hR K gr gn => ?_
 generalize hfr : Jx gl [.ms id 1 4 1 cap, .int .u64 (u : Int)] = fr
 have hF : Fs gl [(0, .ms id 1 4 1 cap), (1, .int .u64 (u : Int))] fr := by subst hfr; simp [Fs]
 simp only [Fs] at hF
 clear hfr
 have hlen : Jab Tryz.prog 40 (.ms id 1 4 1 cap) = some (.int .i64 4) := by simp only [Jab, Tryz.underlying40]; rfl
 have cv : ∀ st, QJ Tryz.prog st 87 97 (.int .u64 (u : Int)) = some (.int .u32 (u : Int)) := fun st => by rw [Q5 Tryz.underlying87 Tryz.underlying97, Jbk (by omega) (by omega)]
 generalize hl : ByteArray.mk _ = lit
 have htv : S.ofList lit.data.toList = sm2 := by rw [← hl]; kernel_rfl
 clear hl
 refine Ks_ (Ka_ (gs := [none, none, none]) fun K1 gK => ?_)
 simp (disch := omega) [hF, hlen]
 refine gK _ _ (Ks_ ?_)
 refine Kl_ (0) (fun i fr st' => Fs gl [(0, .ms id 1 4 1 cap), (1, .int .u64 (u : Int)), (4, .int .i64 4)] fr ∧ i ≤ 0 ∧ st = st') (0) (fun fr st' => Fs gl [(0, .ms id 1 4 1 cap), (1, .int .u64 (u : Int)), (4, .int .i64 4)] fr ∧ st = st') ?_ ?_ ?_ ?_
 ·exact ⟨by simp [Fs, hF], Nat.le_refl _, rfl⟩
 ·rintro i fr st' ⟨_, hi, rfl⟩
  omega
 ·
  clear hF
  rintro i fr st' ⟨hF, hi, rfl⟩ K2 gk2 gx2 go2
  simp only [Fs] at hF
  refine Ks_ (Ks_ (Ka_ (gs := [none, none]) fun K1 gK => ?_))
  simp (disch := omega) [hF]
  refine gK _ _ (Kf_ (by simp (disch := omega) []) ?_)
  exact Kx_ (gx2 _ _ ⟨by simp [Fs, hF], rfl⟩)
 ·
  clear hF
  rintro fr st' ⟨hF, rfl⟩
  simp only [Fs] at hF
  refine Ks_ (Ka_ (gs := [none, none, none]) fun K1 gK => ?_)
  simp (disch := omega) [hF, cv]
  refine gK _ _ (Ks_ (Ks_ (Ka_ (gs := [none, none]) fun K1 gK => ?_)))
  simp (disch := omega) [hF]
  refine gK _ _ ?_
  obtain ⟨v1, hv1⟩ : ∃ v : Nat, u % 10000 = v := ⟨_, rfl⟩
  obtain ⟨y1, hy1⟩ : ∃ v : Nat, u / 10000 = v := ⟨_, rfl⟩
  obtain ⟨v2, hv2⟩ : ∃ v : Nat, v1 / 100 = v := ⟨_, rfl⟩
  obtain ⟨v3, hv3⟩ : ∃ v : Nat, v1 % 100 = v := ⟨_, rfl⟩
  have e1 : ∀ kk, Jn Tryz.prog kk .rem 97 (.int .u32 (u : Int)) (.int .u32 10000) = some (.int .u32 (v1 : Int)) := Jfl (by decide) hv1
  have e2 : ∀ kk, Jn Tryz.prog kk .quo 97 (.int .u32 (u : Int)) (.int .u32 10000) = some (.int .u32 (y1 : Int)) := Jfm (by decide) (by omega) hy1
  have e3 : ∀ kk, Jn Tryz.prog kk .quo 97 (.int .u32 (v1 : Int)) (.int .u32 100) = some (.int .u32 (v2 : Int)) := Jfm (by decide) (by omega) hv2
  have e4 : ∀ kk, Jn Tryz.prog kk .rem 97 (.int .u32 (v1 : Int)) (.int .u32 100) = some (.int .u32 (v3 : Int)) := Jfl (by decide) hv3
  obtain ⟨m1, mm1, mu1, wr1, ia1, ib1⟩ := Jch (x := v3) (by omega)
  obtain ⟨c1, hc1⟩ : ∃ c : Nat, 48 + v3 / 10 = c := ⟨_, rfl⟩
  obtain ⟨d1, hd1⟩ : ∃ c : Nat, 48 + v3 % 10 = c := ⟨_, rfl⟩
  rw [hc1] at ia1
  rw [hd1] at ib1
  obtain ⟨m2, mm2, mu2, wr2, ia2, ib2⟩ := Jch (x := v2) (by omega)
  obtain ⟨c2, hc2⟩ : ∃ c : Nat, 48 + v2 / 10 = c := ⟨_, rfl⟩
  obtain ⟨d2, hd2⟩ : ∃ c : Nat, 48 + v2 % 10 = c := ⟨_, rfl⟩
  rw [hc2] at ia2
  rw [hd2] at ib2
  obtain ⟨q1, w1, hb1, o1⟩ := JaJ (st := { ctr := st.ctr + 15, box := st.box }) hb (off := 4) (by simp) d1
  simp only [List.set_cons_succ, List.set_cons_zero] at hb1
  obtain ⟨q2, w2, hb2, o2⟩ := JaJ (st := q1) hb1 (off := 3) (by simp) c1
  simp only [List.set_cons_succ, List.set_cons_zero] at hb2
  obtain ⟨q3, w3, hb3, o3⟩ := JaJ (st := { ctr := q2.ctr + 15, box := q2.box }) hb2 (off := 2) (by simp) d2
  simp only [List.set_cons_succ, List.set_cons_zero] at hb3
  obtain ⟨q4, w4, hb4, o4⟩ := JaJ (st := q3) hb3 (off := 1) (by simp) c2
  simp only [List.set_cons_succ, List.set_cons_zero] at hb4
  have n4_3 : ∀ cap, Jo Tryz.prog 40 (.ms id 1 4 1 cap) (.int .i64 3) = some (.ptr id 4) := fun cap => by have := nit (off := 1) (n := 4) (i := 3) (cap := cap) (id := id) (by decide); rw [show 1 + 3 = 4 from rfl] at this; exact this
  have n4_2 : ∀ cap, Jo Tryz.prog 40 (.ms id 1 4 1 cap) (.int .i64 2) = some (.ptr id 3) := fun cap => by have := nit (off := 1) (n := 4) (i := 2) (cap := cap) (id := id) (by decide); rw [show 1 + 2 = 3 from rfl] at this; exact this
  have n4_1 : ∀ cap, Jo Tryz.prog 40 (.ms id 1 4 1 cap) (.int .i64 1) = some (.ptr id 2) := fun cap => by have := nit (off := 1) (n := 4) (i := 1) (cap := cap) (id := id) (by decide); rw [show 1 + 1 = 2 from rfl] at this; exact this
  have n4_0 : ∀ cap, Jo Tryz.prog 40 (.ms id 1 4 1 cap) (.int .i64 0) = some (.ptr id 1) := fun cap => by have := nit (off := 1) (n := 4) (i := 0) (cap := cap) (id := id) (by decide); rw [show 1 + 0 = 1 from rfl] at this; exact this
  refine Kt_ (by simp (disch := omega) []) (Ks_ (Ka_ (gs := [none, none, none]) fun K1 gK => ?_))
  simp (disch := omega) [e1]
  refine gK _ _ (Ks_ (Ka_ (gs := [none, none, none]) fun K1 gK => ?_))
  simp (disch := omega) [e2]
  refine gK _ _ (Ks_ (Ka_ (gs := [none, none, none, none, none, none, none, none]) fun K1 gK => ?_))
  simp (disch := omega) [e3, e4, mu1, mu2]
  refine gK _ _ (Ks_ ?_)
  refine Kn_ (fun fr => Fs gl [(0, .ms id 1 4 1 cap), (4, .int .i64 4), (12, .int .u32 (y1 : Int)), (14, .int .u32 (m2 : Int)), (15, .int .u32 (m1 : Int))] fr) (by simp [Fs, hF]) ?_
  clear hF
  rintro fr hF
  simp only [Fs] at hF
  refine DoK.drawP (b := [0, 0, 2, 0, 0, 16, 0, 64, 192, 0, 512, 455, 2503, 8191, 16383]) (rs := [(0, 3), (6, 3), (11, 2), (3, 3), (9, 2), (13, 2)]) (gs := [none, none, none, none, none, none, none, none, none, none, none, none, none, none, none]) (by kernel_rfl) (by kernel_rfl) (by kernel_rfl) (by kernel_rfl) (by kernel_rfl) fun K1 gK => ?_
  simp only [Jac, Jb2, List.drop_zero, List.drop_succ_cons, List.take_succ_cons, List.take_zero, List.cons_append, List.nil_append]
  simp (disch := omega) [hF, htv, wr1, ia1, ib1, w1, w2, n4_3, n4_2]
  refine gK _ _ (Ks_ ?_)
  refine Kn_ (fun fr => Fs gl [(0, .ms id 1 4 1 cap), (4, .int .i64 4), (12, .int .u32 (y1 : Int)), (14, .int .u32 (m2 : Int))] fr) (by simp [Fs, hF]) ?_
  clear hF
  rintro fr hF
  simp only [Fs] at hF
  refine DoK.drawP (b := [0, 0, 2, 0, 0, 16, 0, 64, 192, 0, 512, 455, 2503, 8191, 16383]) (rs := [(0, 3), (6, 3), (11, 2), (3, 3), (9, 2), (13, 2)]) (gs := [none, none, none, none, none, none, none, none, none, none, none, none, none, none, none]) (by kernel_rfl) (by kernel_rfl) (by kernel_rfl) (by kernel_rfl) (by kernel_rfl) fun K1 gK => ?_
  simp only [Jac, Jb2, List.drop_zero, List.drop_succ_cons, List.take_succ_cons, List.take_zero, List.cons_append, List.nil_append]
  simp (disch := omega) [hF, htv, wr2, ia2, ib2, w3, w4, n4_1, n4_0]
  refine gK _ _ ?_
  refine Kn_ (fun fr => Fs gl [(0, .ms id 1 4 1 cap), (4, .int .i64 4), (12, .int .u32 (y1 : Int))] fr) (by simp [Fs, hF]) ?_
  clear hF
  rintro fr hF
  simp only [Fs] at hF
  refine Ka_ (gs := [none, none, none]) fun K1 gK => ?_
  simp (disch := omega) [hF]
  refine gK _ _ (Ks_ (Ks_ (Ka_ (gs := [none, none]) fun K1 gK => ?_)))
  simp (disch := omega) []
  refine gK _ _ (Kf_ (by simp (disch := omega) []) (Kk_ (Ks_ (Ka_ (gs := [none, none]) fun K1 gK => ?_))))
  simp (disch := omega) []
  refine gK _ _ (Kf_ (by simp (disch := omega) []) (Kk_ (gn _ _ ?_)))
  simp [JC, Tryz.f73, hF]
  refine hR _ _ ?_
  have hdn : digN u = 4 := by unfold digN; (repeat' split) <;> omega
  refine ⟨rfl, (((((((Only.refl _ _).trans (Only.tick _ st 15)).trans o1).trans o2).trans (Only.tick _ q2 15)).trans o3).trans o4), _, hb4, by simp, ?_⟩
  rw [hdn, QG (n := u) (by omega), QG (n := (u / 10)) (by omega), QG (n := ((u / 10) / 10)) (by omega), Ja4 (n := (((u / 10) / 10) / 10)) (by omega)]
  simp only [sub, List.drop_succ_cons, List.drop_zero, List.take_succ_cons, List.take_zero, JQ, List.map_cons, List.map_nil, List.cons_append, List.nil_append]
  rw [QU (n := 48 + (((u / 10) / 10) / 10)) (by omega)]
  rw [QU (n := 48 + ((u / 10) / 10) % 10) (by omega)]
  rw [QU (n := 48 + (u / 10) % 10) (by omega)]
  rw [QU (n := 48 + u % 10) (by omega)]
  simp only [List.cons.injEq, V.int.injEq, true_and, and_true]
  omega
set_option maxHeartbeats 4000000 in
set_option maxRecDepth 100000 in
theorem Jqd (gl : Gl) (st : St) (u : Nat) (h1 : 10000 ≤ u) (h2 : u < 100000) (id : Nat) (cap : Option Nat) (a b1 b2 b3 b4 b5 b6 : V) (r : List V) (e : TypeId) (fl : Bool) (hb : st.box.get id = some (.cells (a :: b1 :: b2 :: b3 :: b4 :: b5 :: b6 :: r) e fl (some 0))) :
  Says Tryz.prog gl 73 [.ms id 1 5 1 cap, .int .u64 (u : Int)] st (fun v st' => Jnj id (r.length + 7) u e fl st v st') := by
 refine JS (NY.no _ rfl rfl rfl _ _) Tryz.func73 rfl (by kernel_rfl) fun R hR K gr gn => ?_
 generalize hfr : Jx gl [.ms id 1 5 1 cap, .int .u64 (u : Int)] = fr
 have hF : Fs gl [(0, .ms id 1 5 1 cap), (1, .int .u64 (u : Int))] fr := by subst hfr; simp [Fs]
 simp only [Fs] at hF
 clear hfr
 have hlen : Jab Tryz.prog 40 (.ms id 1 5 1 cap) = some (.int .i64 5) := by simp only [Jab, Tryz.underlying40]; rfl
 have cv : ∀ st, QJ Tryz.prog st 87 97 (.int .u64 (u : Int)) = some (.int .u32 (u : Int)) := fun st => by rw [Q5 Tryz.underlying87 Tryz.underlying97, Jbk (by omega) (by omega)]
 generalize hl : ByteArray.mk _ = lit
 have htv : S.ofList lit.data.toList = sm2 := by rw [← hl]; kernel_rfl
 clear hl
 refine Ks_ (Ka_ (gs := [none, none, none]) fun K1 gK => ?_)
 simp (disch := omega) [hF, hlen]
 refine gK _ _ (Ks_ ?_)
 refine Kl_ (0) (fun i fr st' => Fs gl [(0, .ms id 1 5 1 cap), (1, .int .u64 (u : Int)), (4, .int .i64 5)] fr ∧ i ≤ 0 ∧ st = st') (0) (fun fr st' => Fs gl [(0, .ms id 1 5 1 cap), (1, .int .u64 (u : Int)), (4, .int .i64 5)] fr ∧ st = st') ?_ ?_ ?_ ?_
 ·exact ⟨by simp [Fs, hF], Nat.le_refl _, rfl⟩
 ·rintro i fr st' ⟨_, hi, rfl⟩
  omega
 ·
  clear hF
  rintro i fr st' ⟨hF, hi, rfl⟩ K3 gk3 gx3 go3
  simp only [Fs] at hF
  refine Ks_ (Ks_ (Ka_ (gs := [none, none]) fun K1 gK => ?_))
  simp (disch := omega) [hF]
  refine gK _ _ (Kf_ (by simp (disch := omega) []) ?_)
  exact Kx_ (gx3 _ _ ⟨by simp [Fs, hF], rfl⟩)
 ·
  clear hF
  rintro fr st' ⟨hF, rfl⟩
  simp only [Fs] at hF
  refine Ks_ (Ka_ (gs := [none, none, none]) fun K1 gK => ?_)
  simp (disch := omega) [hF, cv]
  refine gK _ _ (Ks_ (Ks_ (Ka_ (gs := [none, none]) fun K1 gK => ?_)))
  simp (disch := omega) [hF]
  refine gK _ _ ?_
  obtain ⟨v1, hv1⟩ : ∃ v : Nat, u % 10000 = v := ⟨_, rfl⟩
  obtain ⟨y1, hy1⟩ : ∃ v : Nat, u / 10000 = v := ⟨_, rfl⟩
  obtain ⟨v2, hv2⟩ : ∃ v : Nat, v1 / 100 = v := ⟨_, rfl⟩
  obtain ⟨v3, hv3⟩ : ∃ v : Nat, v1 % 100 = v := ⟨_, rfl⟩
  have e1 : ∀ kk, Jn Tryz.prog kk .rem 97 (.int .u32 (u : Int)) (.int .u32 10000) = some (.int .u32 (v1 : Int)) := Jfl (by decide) hv1
  have e2 : ∀ kk, Jn Tryz.prog kk .quo 97 (.int .u32 (u : Int)) (.int .u32 10000) = some (.int .u32 (y1 : Int)) := Jfm (by decide) (by omega) hy1
  have e3 : ∀ kk, Jn Tryz.prog kk .quo 97 (.int .u32 (v1 : Int)) (.int .u32 100) = some (.int .u32 (v2 : Int)) := Jfm (by decide) (by omega) hv2
  have e4 : ∀ kk, Jn Tryz.prog kk .rem 97 (.int .u32 (v1 : Int)) (.int .u32 100) = some (.int .u32 (v3 : Int)) := Jfl (by decide) hv3
  obtain ⟨m1, mm1, mu1, wr1, ia1, ib1⟩ := Jch (x := v3) (by omega)
  obtain ⟨c1, hc1⟩ : ∃ c : Nat, 48 + v3 / 10 = c := ⟨_, rfl⟩
  obtain ⟨d1, hd1⟩ : ∃ c : Nat, 48 + v3 % 10 = c := ⟨_, rfl⟩
  rw [hc1] at ia1
  rw [hd1] at ib1
  obtain ⟨m2, mm2, mu2, wr2, ia2, ib2⟩ := Jch (x := v2) (by omega)
  obtain ⟨c2, hc2⟩ : ∃ c : Nat, 48 + v2 / 10 = c := ⟨_, rfl⟩
  obtain ⟨d2, hd2⟩ : ∃ c : Nat, 48 + v2 % 10 = c := ⟨_, rfl⟩
  rw [hc2] at ia2
  rw [hd2] at ib2
  obtain ⟨q1, w1, hb1, o1⟩ := JaJ (st := { ctr := st.ctr + 15, box := st.box }) hb (off := 5) (by simp) d1
  simp only [List.set_cons_succ, List.set_cons_zero] at hb1
  obtain ⟨q2, w2, hb2, o2⟩ := JaJ (st := q1) hb1 (off := 4) (by simp) c1
  simp only [List.set_cons_succ, List.set_cons_zero] at hb2
  obtain ⟨q3, w3, hb3, o3⟩ := JaJ (st := { ctr := q2.ctr + 15, box := q2.box }) hb2 (off := 3) (by simp) d2
  simp only [List.set_cons_succ, List.set_cons_zero] at hb3
  obtain ⟨q4, w4, hb4, o4⟩ := JaJ (st := q3) hb3 (off := 2) (by simp) c2
  simp only [List.set_cons_succ, List.set_cons_zero] at hb4
  have n4_4 : ∀ cap, Jo Tryz.prog 40 (.ms id 1 5 1 cap) (.int .i64 4) = some (.ptr id 5) := fun cap => by have := nit (off := 1) (n := 5) (i := 4) (cap := cap) (id := id) (by decide); rw [show 1 + 4 = 5 from rfl] at this; exact this
  have n4_3 : ∀ cap, Jo Tryz.prog 40 (.ms id 1 5 1 cap) (.int .i64 3) = some (.ptr id 4) := fun cap => by have := nit (off := 1) (n := 5) (i := 3) (cap := cap) (id := id) (by decide); rw [show 1 + 3 = 4 from rfl] at this; exact this
  have n4_2 : ∀ cap, Jo Tryz.prog 40 (.ms id 1 5 1 cap) (.int .i64 2) = some (.ptr id 3) := fun cap => by have := nit (off := 1) (n := 5) (i := 2) (cap := cap) (id := id) (by decide); rw [show 1 + 2 = 3 from rfl] at this; exact this
  have n4_1 : ∀ cap, Jo Tryz.prog 40 (.ms id 1 5 1 cap) (.int .i64 1) = some (.ptr id 2) := fun cap => by have := nit (off := 1) (n := 5) (i := 1) (cap := cap) (id := id) (by decide); rw [show 1 + 1 = 2 from rfl] at this; exact this
  refine Kt_ (by simp (disch := omega) []) (Ks_ (Ka_ (gs := [none, none, none]) fun K1 gK => ?_))
  simp (disch := omega) [e1]
  refine gK _ _ (Ks_ (Ka_ (gs := [none, none, none]) fun K1 gK => ?_))
  simp (disch := omega) [e2]
  refine gK _ _ (Ks_ (Ka_ (gs := [none, none, none, none, none, none, none, none]) fun K1 gK => ?_))
  simp (disch := omega) [e3, e4, mu1, mu2]
  refine gK _ _ (Ks_ ?_)
  refine Kn_ (fun fr => Fs gl [(0, .ms id 1 5 1 cap), (4, .int .i64 5), (12, .int .u32 (y1 : Int)), (14, .int .u32 (m2 : Int)), (15, .int .u32 (m1 : Int))] fr) (by simp [Fs, hF]) ?_
  clear hF
  rintro fr hF
  simp only [Fs] at hF
  refine DoK.drawP (b := [0, 0, 2, 0, 0, 16, 0, 64, 192, 0, 512, 455, 2503, 8191, 16383]) (rs := [(0, 3), (6, 3), (11, 2), (3, 3), (9, 2), (13, 2)]) (gs := [none, none, none, none, none, none, none, none, none, none, none, none, none, none, none]) (by kernel_rfl) (by kernel_rfl) (by kernel_rfl) (by kernel_rfl) (by kernel_rfl) fun K1 gK => ?_
  simp only [Jac, Jb2, List.drop_zero, List.drop_succ_cons, List.take_succ_cons, List.take_zero, List.cons_append, List.nil_append]
  simp (disch := omega) [hF, htv, wr1, ia1, ib1, w1, w2, n4_4, n4_3]
  refine gK _ _ (Ks_ ?_)
  refine Kn_ (fun fr => Fs gl [(0, .ms id 1 5 1 cap), (4, .int .i64 5), (12, .int .u32 (y1 : Int)), (14, .int .u32 (m2 : Int))] fr) (by simp [Fs, hF]) ?_
  clear hF
  rintro fr hF
  simp only [Fs] at hF
  refine DoK.drawP (b := [0, 0, 2, 0, 0, 16, 0, 64, 192, 0, 512, 455, 2503, 8191, 16383]) (rs := [(0, 3), (6, 3), (11, 2), (3, 3), (9, 2), (13, 2)]) (gs := [none, none, none, none, none, none, none, none, none, none, none, none, none, none, none]) (by kernel_rfl) (by kernel_rfl) (by kernel_rfl) (by kernel_rfl) (by kernel_rfl) fun K1 gK => ?_
  simp only [Jac, Jb2, List.drop_zero, List.drop_succ_cons, List.take_succ_cons, List.take_zero, List.cons_append, List.nil_append]
  simp (disch := omega) [hF, htv, wr2, ia2, ib2, w3, w4, n4_2, n4_1]
  refine gK _ _ ?_
  refine Kn_ (fun fr => Fs gl [(0, .ms id 1 5 1 cap), (4, .int .i64 5), (12, .int .u32 (y1 : Int))] fr) (by simp [Fs, hF]) ?_
  clear hF
  rintro fr hF
  simp only [Fs] at hF
  refine Ka_ (gs := [none, none, none]) fun K1 gK => ?_
  simp (disch := omega) [hF]
  refine gK _ _ (Ks_ (Ks_ (Ka_ (gs := [none, none]) fun K1 gK => ?_)))
  simp (disch := omega) []
  refine gK _ _ (Kf_ (by simp (disch := omega) []) (Kk_ (Ks_ (Ka_ (gs := [none, none]) fun K1 gK => ?_))))
  simp (disch := omega) []
  refine gK _ _ ?_
  obtain ⟨c9, hc9⟩ : ∃ c : Nat, 48 + y1 = c := ⟨_, rfl⟩
  have g1 : IntKind.u32.wrap (48 + (y1 : Int)) = (c9 : Int) := by rw [Jbk (by omega) (by omega)]; omega
  have g2 : ∀ st, QJ Tryz.prog st 97 5 (.int .u32 (c9 : Int)) = some (.int .u8 (c9 : Int)) := fun st => by rw [Q5 Tryz.underlying97 Tryz.underlying5, Ja6 (by omega) (by omega)]
  obtain ⟨q5, w5, hb5, o5⟩ := JaJ (st := q4) hb4 (off := 1) (by simp) c9
  simp only [List.set_cons_succ, List.set_cons_zero] at hb5
  have n5_0 : ∀ cap, Jo Tryz.prog 40 (.ms id 1 5 1 cap) (.int .i64 0) = some (.ptr id 1) := fun cap => by have := nit (off := 1) (n := 5) (i := 0) (cap := cap) (id := id) (by decide); rw [show 1 + 0 = 1 from rfl] at this; exact this
  refine Kt_ (by simp (disch := omega) []) (Ka_ (gs := [none, none, none, none, none, none]) fun K1 gK => ?_)
  simp (disch := omega) [hF, g1, g2, w5, n5_0]
  refine gK _ _ (gn _ _ ?_)
  simp [JC, Tryz.f73, hF]
  refine hR _ _ ?_
  have hdn : digN u = 5 := by unfold digN; (repeat' split) <;> omega
  refine ⟨rfl, ((((((((Only.refl _ _).trans (Only.tick _ st 15)).trans o1).trans o2).trans (Only.tick _ q2 15)).trans o3).trans o4).trans o5), _, hb5, by simp, ?_⟩
  rw [hdn, QG (n := u) (by omega), QG (n := (u / 10)) (by omega), QG (n := ((u / 10) / 10)) (by omega), QG (n := (((u / 10) / 10) / 10)) (by omega), Ja4 (n := ((((u / 10) / 10) / 10) / 10)) (by omega)]
  simp only [sub, List.drop_succ_cons, List.drop_zero, List.take_succ_cons, List.take_zero, JQ, List.map_cons, List.map_nil, List.cons_append, List.nil_append]
  rw [QU (n := 48 + ((((u / 10) / 10) / 10) / 10)) (by omega)]
  rw [QU (n := 48 + (((u / 10) / 10) / 10) % 10) (by omega)]
  rw [QU (n := 48 + ((u / 10) / 10) % 10) (by omega)]
  rw [QU (n := 48 + (u / 10) % 10) (by omega)]
  rw [QU (n := 48 + u % 10) (by omega)]
  simp only [List.cons.injEq, V.int.injEq, true_and, and_true]
  omega
set_option maxHeartbeats 4000000 in
set_option maxRecDepth 100000 in
theorem Jqe (gl : Gl) (st : St) (u : Nat) (h1 : 100000 ≤ u) (h2 : u < 1000000) (id : Nat) (cap : Option Nat) (a b1 b2 b3 b4 b5 b6 : V) (r : List V) (e : TypeId) (fl : Bool) (hb : st.box.get id = some (.cells (a :: b1 :: b2 :: b3 :: b4 :: b5 :: b6 :: r) e fl (some 0))) :
  Says Tryz.prog gl 73 [.ms id 1 6 1 cap, .int .u64 (u : Int)] st (fun v st' => Jnj id (r.length + 7) u e fl st v st') := by
 refine JS (NY.no _ rfl rfl rfl _ _) Tryz.func73 rfl (by kernel_rfl) fun R hR K gr gn => ?_
 generalize hfr : Jx gl [.ms id 1 6 1 cap, .int .u64 (u : Int)] = fr
 have hF : Fs gl [(0, .ms id 1 6 1 cap), (1, .int .u64 (u : Int))] fr := by subst hfr; simp [Fs]
 simp only [Fs] at hF
 clear hfr
 have hlen : Jab Tryz.prog 40 (.ms id 1 6 1 cap) = some (.int .i64 6) := by simp only [Jab, Tryz.underlying40]; rfl
 have cv : ∀ st, QJ Tryz.prog st 87 97 (.int .u64 (u : Int)) = some (.int .u32 (u : Int)) := fun st => by rw [Q5 Tryz.underlying87 Tryz.underlying97, Jbk (by omega) (by omega)]
 generalize hl : ByteArray.mk _ = lit
 have htv : S.ofList lit.data.toList = sm2 := by rw [← hl]; kernel_rfl
 clear hl
 refine Ks_ (Ka_ (gs := [none, none, none]) fun K1 gK => ?_)
 simp (disch := omega) [hF, hlen]
 refine gK _ _ (Ks_ ?_)
 refine Kl_ (0) (fun i fr st' => Fs gl [(0, .ms id 1 6 1 cap), (1, .int .u64 (u : Int)), (4, .int .i64 6)] fr ∧ i ≤ 0 ∧ st = st') (0) (fun fr st' => Fs gl [(0, .ms id 1 6 1 cap), (1, .int .u64 (u : Int)), (4, .int .i64 6)] fr ∧ st = st') ?_ ?_ ?_ ?_
 ·exact ⟨by simp [Fs, hF], Nat.le_refl _, rfl⟩
 ·rintro i fr st' ⟨_, hi, rfl⟩
  omega
 ·
  clear hF
  rintro i fr st' ⟨hF, hi, rfl⟩ K4 gk4 gx4 go4
  simp only [Fs] at hF
  refine Ks_ (Ks_ (Ka_ (gs := [none, none]) fun K1 gK => ?_))
  simp (disch := omega) [hF]
  refine gK _ _ (Kf_ (by simp (disch := omega) []) ?_)
  exact Kx_ (gx4 _ _ ⟨by simp [Fs, hF], rfl⟩)
 ·
  clear hF
  rintro fr st' ⟨hF, rfl⟩
  simp only [Fs] at hF
  refine Ks_ (Ka_ (gs := [none, none, none]) fun K1 gK => ?_)
  simp (disch := omega) [hF, cv]
  refine gK _ _ (Ks_ (Ks_ (Ka_ (gs := [none, none]) fun K1 gK => ?_)))
  simp (disch := omega) [hF]
  refine gK _ _ ?_
  obtain ⟨v1, hv1⟩ : ∃ v : Nat, u % 10000 = v := ⟨_, rfl⟩
  obtain ⟨y1, hy1⟩ : ∃ v : Nat, u / 10000 = v := ⟨_, rfl⟩
  obtain ⟨v2, hv2⟩ : ∃ v : Nat, v1 / 100 = v := ⟨_, rfl⟩
  obtain ⟨v3, hv3⟩ : ∃ v : Nat, v1 % 100 = v := ⟨_, rfl⟩
  have e1 : ∀ kk, Jn Tryz.prog kk .rem 97 (.int .u32 (u : Int)) (.int .u32 10000) = some (.int .u32 (v1 : Int)) := Jfl (by decide) hv1
  have e2 : ∀ kk, Jn Tryz.prog kk .quo 97 (.int .u32 (u : Int)) (.int .u32 10000) = some (.int .u32 (y1 : Int)) := Jfm (by decide) (by omega) hy1
  have e3 : ∀ kk, Jn Tryz.prog kk .quo 97 (.int .u32 (v1 : Int)) (.int .u32 100) = some (.int .u32 (v2 : Int)) := Jfm (by decide) (by omega) hv2
  have e4 : ∀ kk, Jn Tryz.prog kk .rem 97 (.int .u32 (v1 : Int)) (.int .u32 100) = some (.int .u32 (v3 : Int)) := Jfl (by decide) hv3
  obtain ⟨m1, mm1, mu1, wr1, ia1, ib1⟩ := Jch (x := v3) (by omega)
  obtain ⟨c1, hc1⟩ : ∃ c : Nat, 48 + v3 / 10 = c := ⟨_, rfl⟩
  obtain ⟨d1, hd1⟩ : ∃ c : Nat, 48 + v3 % 10 = c := ⟨_, rfl⟩
  rw [hc1] at ia1
  rw [hd1] at ib1
  obtain ⟨m2, mm2, mu2, wr2, ia2, ib2⟩ := Jch (x := v2) (by omega)
  obtain ⟨c2, hc2⟩ : ∃ c : Nat, 48 + v2 / 10 = c := ⟨_, rfl⟩
  obtain ⟨d2, hd2⟩ : ∃ c : Nat, 48 + v2 % 10 = c := ⟨_, rfl⟩
  rw [hc2] at ia2
  rw [hd2] at ib2
  obtain ⟨q1, w1, hb1, o1⟩ := JaJ (st := { ctr := st.ctr + 15, box := st.box }) hb (off := 6) (by simp) d1
  simp only [List.set_cons_succ, List.set_cons_zero] at hb1
  obtain ⟨q2, w2, hb2, o2⟩ := JaJ (st := q1) hb1 (off := 5) (by simp) c1
  simp only [List.set_cons_succ, List.set_cons_zero] at hb2
  obtain ⟨q3, w3, hb3, o3⟩ := JaJ (st := { ctr := q2.ctr + 15, box := q2.box }) hb2 (off := 4) (by simp) d2
  simp only [List.set_cons_succ, List.set_cons_zero] at hb3
  obtain ⟨q4, w4, hb4, o4⟩ := JaJ (st := q3) hb3 (off := 3) (by simp) c2
  simp only [List.set_cons_succ, List.set_cons_zero] at hb4
  have n4_5 : ∀ cap, Jo Tryz.prog 40 (.ms id 1 6 1 cap) (.int .i64 5) = some (.ptr id 6) := fun cap => by have := nit (off := 1) (n := 6) (i := 5) (cap := cap) (id := id) (by decide); rw [show 1 + 5 = 6 from rfl] at this; exact this
  have n4_4 : ∀ cap, Jo Tryz.prog 40 (.ms id 1 6 1 cap) (.int .i64 4) = some (.ptr id 5) := fun cap => by have := nit (off := 1) (n := 6) (i := 4) (cap := cap) (id := id) (by decide); rw [show 1 + 4 = 5 from rfl] at this; exact this
  have n4_3 : ∀ cap, Jo Tryz.prog 40 (.ms id 1 6 1 cap) (.int .i64 3) = some (.ptr id 4) := fun cap => by have := nit (off := 1) (n := 6) (i := 3) (cap := cap) (id := id) (by decide); rw [show 1 + 3 = 4 from rfl] at this; exact this
  have n4_2 : ∀ cap, Jo Tryz.prog 40 (.ms id 1 6 1 cap) (.int .i64 2) = some (.ptr id 3) := fun cap => by have := nit (off := 1) (n := 6) (i := 2) (cap := cap) (id := id) (by decide); rw [show 1 + 2 = 3 from rfl] at this; exact this
  refine Kt_ (by simp (disch := omega) []) (Ks_ (Ka_ (gs := [none, none, none]) fun K1 gK => ?_))
  simp (disch := omega) [e1]
  refine gK _ _ (Ks_ (Ka_ (gs := [none, none, none]) fun K1 gK => ?_))
  simp (disch := omega) [e2]
  refine gK _ _ (Ks_ (Ka_ (gs := [none, none, none, none, none, none, none, none]) fun K1 gK => ?_))
  simp (disch := omega) [e3, e4, mu1, mu2]
  refine gK _ _ (Ks_ ?_)
  refine Kn_ (fun fr => Fs gl [(0, .ms id 1 6 1 cap), (4, .int .i64 6), (12, .int .u32 (y1 : Int)), (14, .int .u32 (m2 : Int)), (15, .int .u32 (m1 : Int))] fr) (by simp [Fs, hF]) ?_
  clear hF
  rintro fr hF
  simp only [Fs] at hF
  refine DoK.drawP (b := [0, 0, 2, 0, 0, 16, 0, 64, 192, 0, 512, 455, 2503, 8191, 16383]) (rs := [(0, 3), (6, 3), (11, 2), (3, 3), (9, 2), (13, 2)]) (gs := [none, none, none, none, none, none, none, none, none, none, none, none, none, none, none]) (by kernel_rfl) (by kernel_rfl) (by kernel_rfl) (by kernel_rfl) (by kernel_rfl) fun K1 gK => ?_
  simp only [Jac, Jb2, List.drop_zero, List.drop_succ_cons, List.take_succ_cons, List.take_zero, List.cons_append, List.nil_append]
  simp (disch := omega) [hF, htv, wr1, ia1, ib1, w1, w2, n4_5, n4_4]
  refine gK _ _ (Ks_ ?_)
  refine Kn_ (fun fr => Fs gl [(0, .ms id 1 6 1 cap), (4, .int .i64 6), (12, .int .u32 (y1 : Int)), (14, .int .u32 (m2 : Int))] fr) (by simp [Fs, hF]) ?_
  clear hF
  rintro fr hF
  simp only [Fs] at hF
  refine DoK.drawP (b := [0, 0, 2, 0, 0, 16, 0, 64, 192, 0, 512, 455, 2503, 8191, 16383]) (rs := [(0, 3), (6, 3), (11, 2), (3, 3), (9, 2), (13, 2)]) (gs := [none, none, none, none, none, none, none, none, none, none, none, none, none, none, none]) (by kernel_rfl) (by kernel_rfl) (by kernel_rfl) (by kernel_rfl) (by kernel_rfl) fun K1 gK => ?_
  simp only [Jac, Jb2, List.drop_zero, List.drop_succ_cons, List.take_succ_cons, List.take_zero, List.cons_append, List.nil_append]
  simp (disch := omega) [hF, htv, wr2, ia2, ib2, w3, w4, n4_3, n4_2]
  refine gK _ _ ?_
  refine Kn_ (fun fr => Fs gl [(0, .ms id 1 6 1 cap), (4, .int .i64 6), (12, .int .u32 (y1 : Int))] fr) (by simp [Fs, hF]) ?_
  clear hF
  rintro fr hF
  simp only [Fs] at hF
  refine Ka_ (gs := [none, none, none]) fun K1 gK => ?_
  simp (disch := omega) [hF]
  refine gK _ _ (Ks_ (Ks_ (Ka_ (gs := [none, none]) fun K1 gK => ?_)))
  simp (disch := omega) []
  refine gK _ _ ?_
  obtain ⟨v5, hv5⟩ : ∃ v : Nat, y1 % 100 = v := ⟨_, rfl⟩
  obtain ⟨y5, hy5⟩ : ∃ v : Nat, y1 / 100 = v := ⟨_, rfl⟩
  have f1 : ∀ kk, Jn Tryz.prog kk .rem 97 (.int .u32 (y1 : Int)) (.int .u32 100) = some (.int .u32 (v5 : Int)) := Jfl (by decide) hv5
  have f2 : ∀ kk, Jn Tryz.prog kk .quo 97 (.int .u32 (y1 : Int)) (.int .u32 100) = some (.int .u32 (y5 : Int)) := Jfm (by decide) (by omega) hy5
  obtain ⟨m3, mm3, mu3, wr3, ia3, ib3⟩ := Jch (x := v5) (by omega)
  obtain ⟨c3, hc3⟩ : ∃ c : Nat, 48 + v5 / 10 = c := ⟨_, rfl⟩
  obtain ⟨d3, hd3⟩ : ∃ c : Nat, 48 + v5 % 10 = c := ⟨_, rfl⟩
  rw [hc3] at ia3
  rw [hd3] at ib3
  obtain ⟨q5, w5, hb5, o5⟩ := JaJ (st := { ctr := q4.ctr + 15, box := q4.box }) hb4 (off := 2) (by simp) d3
  simp only [List.set_cons_succ, List.set_cons_zero] at hb5
  obtain ⟨q6, w6, hb6, o6⟩ := JaJ (st := q5) hb5 (off := 1) (by simp) c3
  simp only [List.set_cons_succ, List.set_cons_zero] at hb6
  have n6_1 : ∀ cap, Jo Tryz.prog 40 (.ms id 1 6 1 cap) (.int .i64 1) = some (.ptr id 2) := fun cap => by have := nit (off := 1) (n := 6) (i := 1) (cap := cap) (id := id) (by decide); rw [show 1 + 1 = 2 from rfl] at this; exact this
  have n6_0 : ∀ cap, Jo Tryz.prog 40 (.ms id 1 6 1 cap) (.int .i64 0) = some (.ptr id 1) := fun cap => by have := nit (off := 1) (n := 6) (i := 0) (cap := cap) (id := id) (by decide); rw [show 1 + 0 = 1 from rfl] at this; exact this
  refine Kt_ (by simp (disch := omega) []) (Ks_ (Ka_ (gs := [none, none, none, none]) fun K1 gK => ?_))
  simp (disch := omega) [hF, f1, mu3]
  refine gK _ _ (Ks_ (Ka_ (gs := [none, none, none]) fun K1 gK => ?_))
  simp (disch := omega) [hF, f2]
  refine gK _ _ (Ks_ ?_)
  refine Kn_ (fun fr => Fs gl [(0, .ms id 1 6 1 cap), (4, .int .i64 2), (12, .int .u32 (y5 : Int)), (16, .int .u32 (m3 : Int))] fr) (by simp [Fs, hF]) ?_
  clear hF
  rintro fr hF
  simp only [Fs] at hF
  refine DoK.drawP (b := [0, 0, 2, 0, 0, 16, 0, 64, 192, 0, 512, 455, 2503, 8191, 16383]) (rs := [(0, 3), (6, 3), (11, 2), (3, 3), (9, 2), (13, 2)]) (gs := [none, none, none, none, none, none, none, none, none, none, none, none, none, none, none]) (by kernel_rfl) (by kernel_rfl) (by kernel_rfl) (by kernel_rfl) (by kernel_rfl) fun K1 gK => ?_
  simp only [Jac, Jb2, List.drop_zero, List.drop_succ_cons, List.take_succ_cons, List.take_zero, List.cons_append, List.nil_append]
  simp (disch := omega) [hF, htv, wr3, ia3, ib3, w5, w6, n6_1, n6_0]
  refine gK _ _ ?_
  refine Kn_ (fun fr => Fs gl [(0, .ms id 1 6 1 cap), (4, .int .i64 2), (12, .int .u32 (y5 : Int))] fr) (by simp [Fs, hF]) ?_
  clear hF
  rintro fr hF
  simp only [Fs] at hF
  refine Ka_ (gs := [none, none, none]) fun K1 gK => ?_
  simp (disch := omega) [hF]
  refine gK _ _ (Ks_ (Ka_ (gs := [none, none]) fun K1 gK => ?_))
  simp (disch := omega) []
  refine gK _ _ (Kf_ (by simp (disch := omega) []) (Kk_ (gn _ _ ?_)))
  simp [JC, Tryz.f73, hF]
  refine hR _ _ ?_
  have hdn : digN u = 6 := by unfold digN; (repeat' split) <;> omega
  refine ⟨rfl, ((((((((((Only.refl _ _).trans (Only.tick _ st 15)).trans o1).trans o2).trans (Only.tick _ q2 15)).trans o3).trans o4).trans (Only.tick _ q4 15)).trans o5).trans o6), _, hb6, by simp, ?_⟩
  rw [hdn, QG (n := u) (by omega), QG (n := (u / 10)) (by omega), QG (n := ((u / 10) / 10)) (by omega), QG (n := (((u / 10) / 10) / 10)) (by omega), QG (n := ((((u / 10) / 10) / 10) / 10)) (by omega), Ja4 (n := (((((u / 10) / 10) / 10) / 10) / 10)) (by omega)]
  simp only [sub, List.drop_succ_cons, List.drop_zero, List.take_succ_cons, List.take_zero, JQ, List.map_cons, List.map_nil, List.cons_append, List.nil_append]
  rw [QU (n := 48 + (((((u / 10) / 10) / 10) / 10) / 10)) (by omega)]
  rw [QU (n := 48 + ((((u / 10) / 10) / 10) / 10) % 10) (by omega)]
  rw [QU (n := 48 + (((u / 10) / 10) / 10) % 10) (by omega)]
  rw [QU (n := 48 + ((u / 10) / 10) % 10) (by omega)]
  rw [QU (n := 48 + (u / 10) % 10) (by omega)]
  rw [QU (n := 48 + u % 10) (by omega)]
  simp only [List.cons.injEq, V.int.injEq, true_and, and_true]
  omega
end Go.Vm
namespace Go.Vm
open Go Go.Proofs Go.Pa
attribute [local simp] OkS Qi OkG Qh Qp OkD JY Qr JI Jm Jq vop Js JB ev evs toV Jl Fr.dsTo Fr.glTo Fr.toNone Ji Jj Jk Qk QL Jd JD Jv V.undef JW JM J7 JX J3 J9 J8 Qa JH J4 J5 JZ JO Qb Jt Ju Jw Jz JE Jr JL JN JK Qq
theorem JpR : (match Jat Tryz.prog 86 with
 | some (.agg z) => Nat.beq z.length 24 && z.all Qn
 | _ => false) = true := by kernel_rfl
theorem Jqf : ∃ z, Jat Tryz.prog 86 = some (.agg z) ∧ z.length = 24 ∧ z.all Qn = true := by
 have h := JpR
 split at h
 ·rename_i z hz
  simp only [Bool.and_eq_true] at h
  exact ⟨z, hz, Nat.eq_of_beq_eq_true h.1, h.2⟩
 ·cases h
theorem JpS {z : List V} (h : z.length = 24) : ∃ a b1 b2 b3 b4 b5 b6 r, z = a :: b1 :: b2 :: b3 :: b4 :: b5 :: b6 :: r ∧ r.length = 17 := by
 match z, h with
 | a :: b1 :: b2 :: b3 :: b4 :: b5 :: b6 :: r, h => exact ⟨a, b1, b2, b3, b4, b5, b6, r, rfl, by simpa using h⟩
theorem JgF {u : Nat} (h1 : 256 ≤ u) (h2 : u < 1000000) : (digN u = 3 ∧ u < 1000) ∨ (digN u = 4 ∧ 1000 ≤ u ∧ u < 10000) ∨ (digN u = 5 ∧ 10000 ≤ u ∧ u < 100000) ∨ (digN u = 6 ∧ 100000 ≤ u) := by
 unfold digN
 (repeat' split) <;> omega
theorem Jqg {id k : Nat} (h : k ≤ 23) : Jan Tryz.prog 86 (.ptr id 0) (some (.int .i64 1)) (some (.int .i64 ((1 + k : Nat) : Int))) = some (.ms id 1 k 1 (some 23)) := by
 have hb : (Nat.ble 1 (1 + k) && Nat.ble (1 + k) 24) = true := by rw [Nat.ble_eq_true_of_le (by omega), Nat.ble_eq_true_of_le (by omega)]; rfl
 simp only [Jan, Tryz.underlying86, QD, JaQ, z5]
 rw [hb]
 simp
theorem Jpe {st : St} {id k : Nat} {cs : List V} {e : TypeId} {fl : Bool} {fz : Option Nat} {l : List UInt8} (hb : st.box.get id = some (.cells cs e fl fz)) (hl : 1 + k ≤ cs.length) (hs : sub cs 1 k = JQ l) (cap : Option Nat) : QJ Tryz.prog st 40 9 (.ms id 1 k 1 cap) = some (.str (S.ofList l)) := by
 have h1 : Nat.ble (1 + k) cs.length = true := Nat.ble_eq_true_of_le (by omega)
 simp only [QJ, Tryz.underlying40, Tryz.underlying9, Tryz.underlying5, JP, hb, h1, Nat.mul_one, hs, Jcv]
variable [Memo] [NY]
theorem Jpf (gl : Gl) (st : St) (u : Nat) (h1 : 256 ≤ u) (h2 : u < 1000000) (id : Nat) (cap : Option Nat) (z : List V) (hz : z.length = 24) (e : TypeId) (fl : Bool) (hb : st.box.get id = some (.cells z e fl (some 0))) :
  Says Tryz.prog gl 73 [.ms id 1 (digN u) 1 cap, .int .u64 (u : Int)] st fun v st' => Jnj id 24 u e fl st v st' := by
 obtain ⟨a, b1, b2, b3, b4, b5, b6, r, rfl, hr⟩ := JpS hz
 have hr' : r.length + 7 = 24 := by omega
 rw [← hr']
 rcases JgF h1 h2 with ⟨hd, h⟩ | ⟨hd, h, h'⟩ | ⟨hd, h, h'⟩ | ⟨hd, h⟩
 ·rw [hd]; exact Jqb gl st u h1 h id cap a b1 b2 b3 b4 b5 b6 r e fl hb
 ·rw [hd]; exact Jqc gl st u h h' id cap a b1 b2 b3 b4 b5 b6 r e fl hb
 ·rw [hd]; exact Jqd gl st u h h' id cap a b1 b2 b3 b4 b5 b6 r e fl hb
 ·rw [hd]; exact Jqe gl st u h h2 id cap a b1 b2 b3 b4 b5 b6 r e fl hb
set_option maxHeartbeats 4000000 in
set_option maxRecDepth 100000 in
theorem Jog (gl : Gl) (hg : gl.get 1 = some powV) (st : St) (u : Nat) (h1 : 256 ≤ u) (h2 : u < 1000000) :
  Says Tryz.prog gl 62 [.int .i64 (u : Int), .int .i64 10] st (fun v st' => (∃ t : S, v = .str t ∧ t.toList = QW u) ∧ Keep st st') := by
 refine JS (NY.no _ rfl rfl rfl _ _) Tryz.func62 rfl (by kernel_rfl) fun R hR K gr gn => ?_
 generalize hfr : Jx gl [.int .i64 (u : Int), .int .i64 10] = fr
 have hF : Fs gl [(0, .int .i64 (u : Int)), (1, .int .i64 10)] fr := by subst hfr; simp [Fs]
 simp only [Fs] at hF
 clear hfr
 have h3 : ¬ u < 100 := by omega
 have h0 : (0 : Int) ≤ (u : Int) := by omega
 have h00 : ¬ (u : Int) < 0 := by omega
 obtain ⟨z, hz, hzl, hzo⟩ := Jqf
 have c1 : ∀ st, QJ Tryz.prog st 2 87 (.int .i64 (u : Int)) = some (.int .u64 (u : Int)) := fun st => by rw [Q5 Tryz.underlying2 Tryz.underlying87, Jd7 (by omega) (by omega)]
 have le0 : ∀ kk, Jn Tryz.prog kk .leq 2 (.int .i64 0) (.int .i64 (u : Int)) = some (.bool true) := fun kk => by rw [JaZ, decide_eq_true h0]
 have lt0 : ∀ kk, Jn Tryz.prog kk .lss 2 (.int .i64 (u : Int)) (.int .i64 0) = some (.bool false) := fun kk => by rw [JaO, decide_eq_false h00]
 have kq := JJ st z 86
 have hbx := Qc st z 86
 have bq := QF st z 86
 have hqc := QO st z 86
 generalize Q4 st z 86 = q at kq hbx bq hqc
 obtain ⟨v, s1, hn1, rfl, hs1⟩ := Says.use (Jny gl hg q u h1 h2)
 obtain rfl : s1 = q := hs1
 have hdk : digN u ≤ 6 := by rcases JgF h1 h2 with h | h | h | h <;> omega
 obtain ⟨v, s2, hf1, rfl, ho, cs', hb', hl', hs'⟩ := Says.use (Jpf gl s1 u h1 h2 st.ctr (some 23) z hzl 86 true bq)
 have hsl := Jqg (id := st.ctr) (k := digN u) (by omega)
 have hcv := Jpe hb' (by omega) hs' (some 23)
 obtain ⟨k, hk⟩ : ∃ k, digN u = k := ⟨_, rfl⟩
 rw [hk] at hn1 hf1 hsl hcv hdk
 rw [show ((1 + k : Nat) : Int) = 1 + (k : Int) by omega] at hsl
 have hkeep : Keep st s2 := ⟨Nat.le_trans kq.ctr ho.ctr, fun i hi => (ho.box i (by omega)).trans (kq.box i hi)⟩
 refine Ks_ (Ka_ (gs := [none]) fun K1 gK => ?_)
 simp (disch := omega) []
 refine gK _ _ (Ks_ (Ks_ (Ka_ (gs := [none, none]) fun K1 gK => ?_)))
 simp (disch := omega) [hF]
 refine gK _ _ (Kt_ (by simp (disch := omega) []) (Ks_ (Ks_ (Ka_ (gs := [none, none, none, some (some 14, true), some (some 14, true), none]) fun K1 gK => ?_))))
 simp (disch := omega) [hF, le0, h3]
 refine gK _ _ (Kf_ (by simp (disch := omega) []) (Kk_ (Ks_ (Ka_ (gs := [none]) fun K1 gK => ?_))))
 simp (disch := omega) [hz, hzo, Ja, hbx]
 refine gK _ _ (Ks_ (Ka_ (gs := [none, none, none]) fun K1 gK => ?_))
 simp (disch := omega) [hF, c1]
 refine gK _ _ (Ks_ (Ks_ (Ka_ (gs := [none, none]) fun K1 gK => ?_)))
 simp (disch := omega) [hF, lt0]
 refine gK _ _ (Kf_ (by simp (disch := omega) []) (Kk_ (Ks_ (Ka_ (gs := [none, none, none]) fun K1 gK => ?_))))
 simp (disch := omega) [hF, hn1]
 refine gK _ _ (Ks_ (Ka_ (gs := [none, none, none, none, none]) fun K1 gK => ?_))
 simp (disch := omega) [hF, hf1, hsl]
 refine gK _ _ (Ks_ (Ks_ (Ka_ (gs := [none, none]) fun K1 gK => ?_)))
 simp (disch := omega) [hF, lt0]
 refine gK _ _ (Kf_ (by simp (disch := omega) []) (Kk_ (Ks_ (Ka_ (gs := [none, none, none, none, none]) fun K1 gK => ?_))))
 simp (disch := omega) [hsl, hcv]
 refine gK _ _ (Kq_ (gr _ _ ?_))
 simp [JC, Tryz.f62, hF]
 refine hR _ _ ?_
 exact ⟨⟨_, rfl, S.toList_ofList _⟩, hkeep⟩
set_option maxRecDepth 100000 in
theorem Jnk (gl : Gl) (hg : gl.get 1 = some powV) (st : St) (u : Nat) (h1 : 256 ≤ u) (h2 : u < 1000000) :
  Says Tryz.prog gl 42 [.int .i64 (u : Int)] st (fun v st' => (∃ t : S, v = .str t ∧ t.toList = QW u) ∧ Keep st st') := by
 refine JS (NY.no _ rfl rfl rfl _ _) Tryz.func42 rfl (by kernel_rfl) fun R hR K gr gn => ?_
 generalize hfr : Jx gl [.int .i64 (u : Int)] = fr
 have hF : Fs gl [(0, .int .i64 (u : Int))] fr := by subst hfr; simp [Fs]
 simp only [Fs] at hF
 clear hfr
 obtain ⟨v, s1, hc, ⟨t, rfl, ht⟩, hk⟩ := Says.use (Jog gl hg st u h1 h2)
 refine Ks_ (Ka_ (gs := [none]) fun K1 gK => ?_)
 simp (disch := omega) []
 refine gK _ _ (Ks_ (Ka_ (gs := [none, none, none]) fun K1 gK => ?_))
 simp (disch := omega) [hF, hc]
 refine gK _ _ (Kq_ (gr _ _ ?_))
 simp [JC, Tryz.f42, hF]
 refine hR _ _ ?_
 exact ⟨⟨t, rfl, ht⟩, hk⟩
variable [NZ]
set_option maxRecDepth 100000 in
theorem Jnl (gl : Gl) (hg : gl.get 1 = some powV) (st : St) (u : Nat) (h1 : 255 < u) (h2 : u < 1000000) :
  Says Tryz.prog gl 23 [.int .i64 (u : Int)] st (fun v st' => (∃ t : S, v = .str t ∧ t.toList = QW u) ∧ Keep st st') := by
 refine JS (NZ.itoaN u st h1) Tryz.func23 rfl (by kernel_rfl) fun R hR K gr gn => ?_
 generalize hfr : Jx gl [.int .i64 (u : Int)] = fr
 have hF : Fs gl [(0, .int .i64 (u : Int))] fr := by subst hfr; simp [Fs]
 simp only [Fs] at hF
 clear hfr
 obtain ⟨v, s1, hc, ⟨t, rfl, ht⟩, hk⟩ := Says.use (Jnk gl hg st u h1 h2)
 refine Ks_ (Ka_ (gs := [none]) fun K1 gK => ?_)
 simp (disch := omega) []
 refine gK _ _ (Ks_ (Ka_ (gs := [none, none, none]) fun K1 gK => ?_))
 simp (disch := omega) [hF, hc]
 refine gK _ _ (Kq_ (gr _ _ ?_))
 simp [JC, Tryz.f23, hF]
 refine hR _ _ ?_
 exact ⟨⟨t, rfl, ht⟩, hk⟩
theorem Jev (gl : Gl) (hg : gl.get 1 = some powV) (st : St) (u : Nat) (h : u < 1000000) : Says Tryz.prog gl 23 [.int .i64 (u : Int)] st fun v st' => (∃ t : S, v = .str t ∧ t.toList = QW u) ∧ Keep st st' := by
 by_cases hu : 255 < u
 ·exact Jnl gl hg st u hu h
 ·exact (Jnn gl st u (by omega)).mono fun v st' hh => ⟨hh.1, by obtain rfl : st' = st := hh.2; exact .refl _⟩
omit [Memo] [NY] [NZ] in
theorem Ji4 {st : St} {c : Nat} (_hc : c < 256) : QJ Tryz.prog (Q4 st [.int .u8 (c : Int)] 5) 40 9 (.ms st.ctr 0 1 1 (some 1)) = some (.str (S.ofList [UInt8.ofNat c])) := by
 have hb := QF st [.int .u8 (c : Int)] 5
 simp only [QJ, Tryz.underlying40, Tryz.underlying9, Tryz.underlying5, JP, hb]
 rfl
def DigI (n m : Nat) (acc : List UInt8) : Prop := (m = 0 → acc = QW n) ∧ (m ≠ 0 → QW m ++ acc = QW n)
omit [Memo] [NY] [NZ] in
theorem DigI.first (n : Nat) : DigI n (n / 10) [UInt8.ofNat (48 + n % 10)] := by
 constructor
 ·intro h
  rw [Ja4 (n := n) (by omega), Nat.mod_eq_of_lt (by omega)]
 ·intro h
  rw [QG (n := n) (by omega)]
omit [Memo] [NY] [NZ] in
theorem DigI.step {n m : Nat} {acc : List UInt8} (h : DigI n m acc) (hm : m ≠ 0) : DigI n (m / 10) (UInt8.ofNat (48 + m % 10) :: acc) := by
 have h2 := h.2 hm
 constructor
 ·intro h0
  rw [Ja4 (n := m) (by omega)] at h2
  rw [← h2, Nat.mod_eq_of_lt (by omega)]; rfl
 ·intro h0
  rw [QG (n := m) (by omega)] at h2
  rw [← h2]; simp
omit [Memo] [NY] [NZ] in
theorem Jhp {m : Nat} (h : m < 1000000) : ∃ r q : Nat, (∀ kk, Jn Tryz.prog kk .rem 3 (.int .i64 (m : Int)) (.int .i64 10) = some (.int .i64 (r : Int))) ∧ (∀ kk, Jn Tryz.prog kk .quo 3 (.int .i64 (m : Int)) (.int .i64 10) = some (.int .i64 (q : Int))) ∧ m % 10 = r ∧ m / 10 = q ∧ r < 10 ∧ q < 1000000 ∧ q ≤ m ∧ (m ≠ 0 → q < m) :=
 ⟨m % 10, m / 10, fun kk => by rw [JfZ (by decide)]; rfl, fun kk => by rw [Jd5 (by decide), show (m : Int).tdiv 10 = ((m / 10 : Nat) : Int) from rfl, Jr (by omega) (by omega)], rfl, rfl, by omega, by omega, by omega, by omega⟩
omit [Memo] [NY] [NZ] in
theorem Jhq (c : Nat) : Q8 Tryz.prog 40 1 [(0, .int .u8 (c : Int))] = some ([.int .u8 (c : Int)], 5, 1) := by
 have h : ∀ n : Int, Q8 Tryz.prog 40 1 [(0, .int .u8 n)] = some ([.int .u8 n], 5, 1) := fun n => by kernel_rfl
 exact h _
omit [Memo] [NY] [NZ] in
theorem Jh (k : IntKind) (n : Int) : Qn (.int k n) = true := rfl
set_option maxHeartbeats 4000000 in
set_option maxRecDepth 100000 in
omit [NY] in
theorem Joh (gl : Gl) (st : St) (u : Nat) (h1 : 255 < u) (h2 : u < 1000000) :
  Says Tryz.prog gl 45 [.int .i64 (u : Int)] st (fun v st' => (∃ t : S, v = .str t ∧ t.toList = QW u) ∧ Keep st st') := by
 refine JS (NZ.digitsN u st h1) Tryz.func45 rfl (by kernel_rfl) fun R hR K gr gn => ?_
 generalize hfr : Jx gl [.int .i64 (u : Int)] = fr
 have hF : Fs gl [(0, .int .i64 (u : Int))] fr := by subst hfr; simp [Fs]
 simp only [Fs] at hF
 clear hfr
 obtain ⟨r, q, e1, e2, hr, hq, hr9, hq9, _, _⟩ := Jhp h2
 obtain ⟨c, hc⟩ : ∃ c : Nat, 48 + r = c := ⟨_, rfl⟩
 have e3 : ∀ kk, Jn Tryz.prog kk .add 3 (.int .i64 48) (.int .i64 (r : Int)) = some (.int .i64 (c : Int)) := fun kk => by rw [Jz, Jr (by omega) (by omega)]; congr 2; omega
 have e4 : ∀ st, QJ Tryz.prog st 3 5 (.int .i64 (c : Int)) = some (.int .u8 (c : Int)) := fun st => by rw [Q5 Tryz.underlying3 Tryz.underlying5, Ja6 (by omega) (by omega)]
 have hb := Qc st [.int .u8 (c : Int)] 5
 have e5 := Ji4 (st := st) (c := c) (by omega)
 have kq := JJ st [.int .u8 (c : Int)] 5
 have hD : DigI u q (S.ofList [UInt8.ofNat c]).toList := by rw [S.toList_ofList, ← hq, ← hc, ← hr]; exact DigI.first u
 have hln : (S.ofList [UInt8.ofNat c]).n = 1 := Qu _
 generalize S.ofList [UInt8.ofNat c] = a0 at e5 hD hln
 have bs := Jhq c
 refine Ks_ (Ka_ (gs := [none]) fun K1 gK => ?_)
 simp (disch := omega) []
 refine gK _ _ (Ks_ (Ka_ (gs := [none, none, none, none, none, none, none]) fun K1 gK => ?_))
 simp (disch := omega) [hF, e1, e3, e4, hb, e5, bs, Jc, Jh]
 refine gK _ _ (Ks_ (Ks_ (Ka_ (gs := [none, none, none]) fun K1 gK => ?_)))
 simp (disch := omega) [hF, e2]
 refine gK _ _ ?_
 refine Kl_ (u) (fun i fr st' => ∃ (m : Nat) (acc : S), Fs gl [(0, .int .i64 (m : Int)), (3, .str acc)] fr ∧ m + i ≤ u ∧ DigI u m acc.toList ∧ acc.n ≤ i + 1 ∧ Keep st st') (0) (fun fr st' => ∃ (acc : S), Fs gl [(3, .str acc)] fr ∧ acc.toList = QW u ∧ Keep st st') ?_ ?_ ?_ ?_
 ·exact ⟨q, a0, by simp [Fs, hF], by omega, hD, by omega, kq⟩
 ·rintro i fr st' ⟨m, acc, _, hmi, hD, hal, hk⟩
  omega
 ·as_aux_lemma =>
  clear hF
  rintro i fr st' ⟨m, acc, hF, hmi, hD, hal, hk⟩ K1 gk1 gx1 go1
  simp only [Fs] at hF
  refine Ks_ (Ks_ (Ka_ (gs := [none, none]) fun K1 gK => ?_))
  simp (disch := omega) [hF]
  refine gK _ _ ?_
  by_cases hm0 : 0 < m
  ·
   refine Kt_ (by simp (disch := omega) [hm0]) ?_
   obtain ⟨r, q, e1, e2, hr, hq, hr9, hq9, _, hlt⟩ := Jhp (m := m) (by omega)
   have hlt := hlt (by omega)
   obtain ⟨c, hc⟩ : ∃ c : Nat, 48 + r = c := ⟨_, rfl⟩
   have e3 : ∀ kk, Jn Tryz.prog kk .add 3 (.int .i64 48) (.int .i64 (r : Int)) = some (.int .i64 (c : Int)) := fun kk => by rw [Jz, Jr (by omega) (by omega)]; congr 2; omega
   have e4 : ∀ st, QJ Tryz.prog st 3 5 (.int .i64 (c : Int)) = some (.int .u8 (c : Int)) := fun st => by rw [Q5 Tryz.underlying3 Tryz.underlying5, Ja6 (by omega) (by omega)]
   have hb := Qc st' [.int .u8 (c : Int)] 5
   have e5 := Ji4 (st := st') (c := c) (by omega)
   have kq1 := JJ st' [.int .u8 (c : Int)] 5
   have hD1 : DigI u q ((S.ofList [UInt8.ofNat c]).app acc).toList := by rw [S.toList_app, S.toList_ofList, ← hq, ← hc, ← hr]; exact hD.step (by omega)
   have hln1 : (S.ofList [UInt8.ofNat c]).n = 1 := Qu _
   generalize S.ofList [UInt8.ofNat c] = a1 at e5 hD1 hln1
   have bs := Jhq c
   have ad : ∀ kk, Jn Tryz.prog kk .add 9 (.str a1) (.str acc) = some (.str (a1.app acc)) := fun kk => Jgc (by omega)
   have han := JcT a1 acc
   refine Kk_ (Ks_ ?_)
   refine Kb_ fun K2 gn2 gx2 go2 => ?_
   refine Ka_ (gs := [none, none, none, none, none, none, none, none, none]) fun K1 gK => ?_
   simp (disch := omega) [hF, Jc, Jh, hm0, e1, e3, e4, hb, e5, bs, ad]
   refine gK _ _ (gn2 _ _ (Ka_ (gs := [none, none, none]) fun K1 gK => ?_))
   simp (disch := omega) [hF, e2]
   refine gK _ _ ?_
   refine gk1 (i + 1) _ _ (by omega) ⟨q, a1.app acc, by simp [Fs, hF], by omega, hD1, by omega, hk.trans kq1⟩
  ·
   refine Kf_ (by simp (disch := omega) [hm0]) ?_
   exact Kx_ (gx1 _ _ ⟨acc, by simp [Fs, hF, hm0], hD.1 (by omega), hk⟩)
 ·as_aux_lemma =>
  clear hF
  rintro fr st' ⟨acc, hF, hac, hk⟩
  simp only [Fs] at hF
  refine Ks_ (Ka_ (gs := [none, none]) fun K1 gK => ?_)
  simp (disch := omega) [hF]
  refine gK _ _ (Kq_ (gr _ _ ?_))
  simp [JC, Tryz.f45, hF]
  refine hR _ _ ?_
  exact ⟨⟨acc, rfl, hac⟩, hk⟩
omit [NY] in
theorem Jh1 (gl : Gl) (st : St) (u : Nat) (h : u < 1000000) : Says Tryz.prog gl 45 [.int .i64 (u : Int)] st fun v st' => (∃ t : S, v = .str t ∧ t.toList = QW u) ∧ Keep st st' := by
 by_cases hu : 255 < u
 ·exact Joh gl st u hu h
 ·exact (JkW gl st u (by omega)).mono fun v st' hh => ⟨hh.1, by obtain rfl : st' = st := hh.2; exact .refl _⟩
end Go.Vm
