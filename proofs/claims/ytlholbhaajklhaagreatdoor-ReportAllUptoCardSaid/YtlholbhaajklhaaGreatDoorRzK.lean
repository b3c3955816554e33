/- All of scenarios: are they too great; how many are of each class: by the program. -/
import Derived.Test.YtlholbhaajklhaaGreatDoorRzI
namespace Go.Vm
open Go Go.Proofs Go.Pa
attribute [local simp] OkS QL OkG Qu QB OkD Qd Qn JS Jh Jn vop Ju JG ev evs toV Jm Fr.dsTo Fr.glTo Fr.toNone Jj Jk Jl Qj QN Jc JL Jv V.undef J5 JV Qo Qg Qh Qk Qp Qq JU J8 Qr Ql JX Qs JC JF JE Jz JM Jo JW J2 JK Qb
set_option maxRecDepth 100000 in
theorem Jns (s : Sw) (r : List V) (st : St) : JB Tryz.prog st 28 (.cp (s.cells ++ r)) = some (.agg s.cells) := by
 obtain ⟨fv, facts, tree, inc, why, code, out, err⟩ := s
 cases tree
 simp only [JB, QS, Jp0, Jjk, sub]
 rfl
theorem Jnt {st : St} {l : List Sw} {i : Nat} (h : i < l.length) : JB Tryz.prog st 28 (.cp (JcD Sw.cells l i)) = some (.agg l[i].cells) := by
 rw [Jbc h]; exact Jns _ _ _
theorem JaI : Q4 Tryz.prog 28 = some (.agg [.nils, .int .i64 0, .int .u8 0, .str ⟨0, 0⟩, .int .i64 0, .nils, .nils, .bool false, .str ⟨0, 0⟩, .int .i64 0, .str ⟨0, 0⟩, .str ⟨0, 0⟩]) := by kernel_rfl
theorem Jnu {st : St} {s : Sw} (hok : s.ok) : ∃ s1, Jaw Tryz.prog { ctr := st.ctr + 1, box := st.box.put st.ctr (.cells [.nils, .int .i64 0, .int .u8 0, .str ⟨0, 0⟩, .int .i64 0, .nils, .nils, .bool false, .str ⟨0, 0⟩, .int .i64 0, .str ⟨0, 0⟩, .str ⟨0, 0⟩] 28 true (some 0)) } 28 (.ptr st.ctr 0) (.agg s.cells) = some s1 ∧ s1.ctr = st.ctr + 1 ∧ SwBox s1 st.ctr s ∧ Keep st s1 := by
 refine ⟨_, JcC Jjk (cs := [.nils, .int .i64 0, .int .u8 0, .str ⟨0, 0⟩, .int .i64 0, .nils, .nils, .bool false, .str ⟨0, 0⟩, .int .i64 0, .str ⟨0, 0⟩, .str ⟨0, 0⟩]) (e := 28) (fl := true) ?_ rfl s.len12 (Sw.ones hok), rfl, ⟨?_, Nat.lt_succ_self _⟩, ?_⟩
 ·simp [Tr.get_put]
 ·simp [Tr.get_put]
 ·exact Keep.put (Keep.put ((Keep.refl st).tick 1) (Nat.le_refl _) _) (Nat.le_refl _) _
def Jqz (l : List Sw) (v : V) : Prop := ∃ b : Bool, v = .bool b ∧ (b = false → l.length ≤ 20 ∧ ∀ s ∈ l, s.small)
theorem JgS {p : Sw → Prop} {l : List Sw} {i : Nat} (h : ∀ j (h : j < l.length), j < i → p l[j]) (hi : l.length ≤ i) : ∀ t ∈ l, p t := fun t ht => by
 obtain ⟨j, hj, rfl⟩ := List.getElem_of_mem ht
 exact h j hj (by omega)
def Jao (k : Nat) (l : List Sw) : Nat := l.countP fun s => Nat.beq (classN s) k
theorem Jb1 {k : Nat} {l : List Sw} {i : Nat} (h : i < l.length) : Jao k (l.take (i + 1)) = Jao k (l.take i) + cond (Nat.beq (classN l[i]) k) 1 0 := by
 unfold Jao
 rw [List.take_add_one, List.getElem?_eq_getElem h, List.countP_append]
 simp only [Option.toList_some, List.countP_cons, List.countP_nil, Nat.zero_add]
 cases Nat.beq (classN l[i]) k <;> simp
theorem JdW (k : Nat) (l : List Sw) (i : Nat) : Jao k (l.take i) ≤ l.length := by
 unfold Jao
 exact Nat.le_trans List.countP_le_length (by rw [List.length_take]; omega)
theorem JhW (s : Sw) : classN s = 0 ∨ classN s = 1 ∨ classN s = 2 := by
 unfold classN
 cases s.inc <;> cases decide (s.code = 0) <;> simp
theorem JoB : Nat.beq 0 1 = false := rfl
theorem JoC : Nat.beq 0 2 = false := rfl
theorem JoD : Nat.beq 1 0 = false := rfl
theorem JoE : Nat.beq 1 2 = false := rfl
theorem JoF : Nat.beq 2 0 = false := rfl
theorem JoG : Nat.beq 2 1 = false := rfl
def Jcy (l : List Sw) : List V := [.int .i64 (Jao 0 l : Int), .int .i64 (Jao 1 l : Int), .int .i64 (Jao 2 l : Int)]
theorem cA {id n : Nat} (h : n = 0 ∨ n = 1 ∨ n = 2) : Je Tryz.prog 71 (.ptr id 0) (.int .i64 (n : Int)) = some (.ptr id n) := by
 rcases h with rfl | rfl | rfl <;> kernel_rfl
theorem cA0 {id : Nat} : Je Tryz.prog 71 (.ptr id 0) (.int .i64 0) = some (.ptr id 0) := by kernel_rfl
theorem cA1 {id : Nat} : Je Tryz.prog 71 (.ptr id 0) (.int .i64 1) = some (.ptr id 1) := by kernel_rfl
theorem cA2 {id : Nat} : Je Tryz.prog 71 (.ptr id 0) (.int .i64 2) = some (.ptr id 2) := by kernel_rfl
theorem JeN : Q4 Tryz.prog 71 = some (.agg [.int .i64 0, .int .i64 0, .int .i64 0]) := by kernel_rfl
variable [Memo] [NY]
set_option maxHeartbeats 4000000 in
set_option maxRecDepth 100000 in
theorem JoH (gl : Gl) (st : St) (lv : V) (l : List Sw) (hl : Row Sw.cells lv l) (hok : ∀ s ∈ l, s.ok) (hsz : ∀ s ∈ l, vtots s.cells ≤ 100000000) (hlen : l.length ≤ 1000000000000) :
  Says Tryz.prog gl 17 [lv] st (fun v st' => Jqz l v ∧ Keep st st') := by
 refine Qa (NY.no _ rfl rfl rfl _ _) Tryz.func17 rfl (by kernel_rfl) fun R hR K gr gn => ?_
 generalize hfr : Jy gl [lv] = fr
 have hF : Fs gl [(0, lv)] fr := by subst hfr; simp [Fs]
 simp only [Fs] at hF
 clear hfr
 have ln := hl.len Tryz.underlying38
 refine Ks_ (Ka_ (gs := [none]) fun K1 gK => ?_)
 simp (disch := omega) []
 refine gK _ _ (Ks_ (Ks_ (Ka_ (gs := [none]) fun K1 gK => ?_)))
 simp (disch := omega) []
 refine gK _ _ ?_
 refine Kl_ (l.length) (fun i fr st' => Fs gl [(0, lv), (3, .int .i64 (i : Int))] fr ∧ i ≤ l.length ∧ (∀ j (h : j < l.length), j < i → l[j].small) ∧ Keep st st') (0) (fun fr st' => Fs gl [(0, lv)] fr ∧ (l.length ≤ 20 → ∀ s ∈ l, s.small) ∧ Keep st st') ?_ ?_ ?_ ?_
 ·exact ⟨by simp [Fs, hF], Nat.zero_le _, fun j _ hj => absurd hj (Nat.not_lt_zero j), .refl _⟩
 ·rintro i fr st' ⟨_, hi, hS, hkq⟩
  omega
 ·as_aux_lemma =>
  clear hF
  rintro i fr st' ⟨hF, hi, hS, hkq⟩ K1 gk1 gx1 go1
  simp only [Fs] at hF
  have gr1 := fun fr st h => go1 AE.ret fr st trivial (gr fr st h)
  have gi : ∀ kk, Jd Tryz.prog kk .lss 3 (.int .i64 (i : Int)) (.int .i64 (l.length : Int)) = some (.bool (decide (i < l.length))) := fun kk => Qh
  obtain ⟨D0, hD0⟩ : ∃ b, decide (i < l.length) = b := ⟨_, rfl⟩
  rw [hD0] at gi
  cases D0 with
  | true =>
   have hlt : i < l.length := of_decide_eq_true hD0
   refine Ks_ (Ks_ (Ka_ (gs := [none, none, none, none, none, some (some 8, true), some (some 8, true), none]) fun K1 gK => ?_))
   simp (disch := omega) [hF, ln, gi]
   refine gK _ _ ?_
   by_cases h20 : i < 20
   ·
    refine Kt_ (by simp (disch := omega) [h20]) ?_
    have hix := hl.ix (fun t _ => t.len12) Tryz.underlying38 Jjk (k := .i64) (a := (i : Int)) (by omega) (by omega)
    have hld := fun st => Jnt (st := st) hlt
    obtain ⟨v, s1, hc, ⟨b, rfl, hsm⟩, hk1⟩ := Says.use (Jnr gl st' l[i] (hok _ (List.getElem_mem hlt)) (hsz _ (List.getElem_mem hlt)))
    refine Kk_ (Ks_ ?_)
    refine Kb_ fun K2 gn2 gx2 go2 => ?_
    have gr2 := fun fr st h => go2 AE.ret fr st trivial (gr1 fr st h)
    refine Ks_ (Ka_ (gs := [none, none, none, none, none]) fun K1 gK => ?_)
    simp (disch := omega) [hF, h20, hix, hld, hc]
    refine gK _ _ ?_
    cases b with
    | true =>
     refine Kt_ (by simp (disch := omega) []) (Ks_ (Ka_ (gs := [none]) fun K1 gK => ?_))
     simp (disch := omega) []
     refine gK _ _ (Kq_ (gr2 _ _ ?_))
     simp [Jx, Tryz.f17, hF]
     refine hR _ _ ?_
     exact ⟨⟨true, rfl, fun h => by cases h⟩, hkq.trans hk1⟩
    | false =>
     refine Kf_ (by simp (disch := omega) []) (Kk_ (gn2 _ _ (Ka_ (gs := [none, none, none]) fun K1 gK => ?_)))
     simp (disch := omega) [hF]
     refine gK _ _ ?_
     refine gk1 (i + 1) _ _ (by omega) ⟨by simp [Fs, hF], by omega, fun j hj hji => by by_cases he : j = i; (subst he; exact hsm rfl); exact hS j hj (by omega), hkq.trans hk1⟩
   ·
    refine Kf_ (by simp (disch := omega) [h20]) ?_
    exact Kx_ (gx1 _ _ ⟨by simp [Fs, hF, h20], fun h => JgS hS (by omega), hkq⟩)
  | false =>
   have hge : l.length ≤ i := by have := of_decide_eq_false hD0; omega
   refine Ks_ (Ks_ (Ka_ (gs := [none, none, none, none, none, some (some 8, true), some (some 8, true), none]) fun K1 gK => ?_))
   simp (disch := omega) [hF, ln, gi]
   refine gK _ _ (Kf_ (by simp (disch := omega) []) ?_)
   exact Kx_ (gx1 _ _ ⟨by simp [Fs, hF], fun _ => JgS hS hge, hkq⟩)
 ·as_aux_lemma =>
  clear hF
  rintro fr st' ⟨hF, hS, hkq⟩
  simp only [Fs] at hF
  refine Ks_ (Ka_ (gs := [none, none, none, none]) fun K1 gK => ?_)
  simp (disch := omega) [hF, ln]
  refine gK _ _ (Kq_ (gr _ _ ?_))
  simp [Jx, Tryz.f17, hF]
  refine hR _ _ ?_
  exact ⟨⟨_, rfl, fun h => by have h := of_decide_eq_false h; exact ⟨by omega, hS (by omega)⟩⟩, hkq⟩
set_option maxHeartbeats 4000000 in
set_option maxRecDepth 100000 in
theorem Jmd (gl : Gl) (st : St) (lv : V) (l : List Sw) (hl : Row Sw.cells lv l) (hok : ∀ s ∈ l, s.ok) (hlen : l.length ≤ 1000000) :
  Says Tryz.prog gl 20 [lv] st (fun v st' => v = .tup (Jcy l) ∧ Keep st st') := by
 refine Qa (NY.no _ rfl rfl rfl _ _) Tryz.func20 rfl (by kernel_rfl) fun R hR K gr gn => ?_
 generalize hfr : Jy gl [lv] = fr
 have hF : Fs gl [(0, lv)] fr := by subst hfr; simp [Fs]
 simp only [Fs] at hF
 clear hfr
 have ln := hl.len Tryz.underlying38
 refine Ks_ (Ka_ (gs := [none, none, none]) fun K1 gK => ?_)
 simp (disch := omega) []
 refine gK _ _ (Ks_ (Ka_ (gs := [none]) fun K1 gK => ?_))
 simp (disch := omega) [JeN, JK, V.cells, Qb, JN]
 refine gK _ _ (Ks_ (Ks_ (Ka_ (gs := [none, none, none]) fun K1 gK => ?_)))
 simp (disch := omega) [hF, ln]
 refine gK _ _ ?_
 refine Kl_ (l.length) (fun i fr st' => Fs gl [(5, .ptr st.ctr 0), (8, lv), (9, .int .i64 (l.length : Int)), (10, .int .i64 (i : Int))] fr ∧ i ≤ l.length ∧ Keep st st' ∧ st.ctr < st'.ctr ∧ st'.box.get st.ctr = some (.cells (Jcy (l.take i)) 71 true (some 0))) (0) (fun fr st' => Fs gl [(5, .ptr st.ctr 0)] fr ∧ Keep st st' ∧ st.ctr < st'.ctr ∧ st'.box.get st.ctr = some (.cells (Jcy l) 71 true (some 0))) ?_ ?_ ?_ ?_
 ·exact ⟨by simp [Fs, hF], Nat.zero_le _, (Keep.refl st).new _, Nat.lt_succ_self _, by simp [Tr.get_put, Jcy, Jao]⟩
 ·rintro i fr st' ⟨_, hi, hk, hct, hb⟩
  omega
 ·as_aux_lemma =>
  clear hF
  rintro i fr st' ⟨hF, hi, hk, hct, hb⟩ K3 gk3 gx3 go3
  simp only [Fs] at hF
  refine Ks_ (Ka_ (gs := [none]) fun K1 gK => ?_)
  simp (disch := omega) [hF]
  refine gK _ _ (Ks_ ?_)
  by_cases hlt : i < l.length
  ·
   refine Kt_ (by simp (disch := omega) [hlt]) ?_
   have hoi := hok _ (List.getElem_mem hlt)
   have hix := hl.ix (fun t _ => t.len12) Tryz.underlying38 Jjk (k := .i64) (a := (i : Int)) (by omega) (by omega)
   have hld := fun st => Jnt (st := st) hlt
   obtain ⟨s1, hst, hc1, hB, hk1⟩ := Jnu (st := st') hoi
   have lb := hB.ld.l
   obtain ⟨v, s2, hc2, rfl, hk2⟩ := Says.use (Jjl gl s1 l[i] hoi)
   have hcl := JhW l[i]
   have h0 := Jb1 (k := 0) hlt
   have h1 := Jb1 (k := 1) hlt
   have h2 := Jb1 (k := 2) hlt
   have e0 := JdW 0 l i
   have e1 := JdW 1 l i
   have e2 := JdW 2 l i
   have hb2 : s2.box.get st.ctr = some (.cells (Jcy (l.take i)) 71 true (some 0)) := by rw [hk2.box _ (by omega), hk1.box _ hct]; exact hb
   obtain ⟨n, hn⟩ : ∃ n, classN l[i] = n := ⟨_, rfl⟩
   rw [hn] at hc2 hcl h0 h1 h2
   clear hn
   have ha := cA (id := st.ctr) hcl
   obtain ⟨c, hc, hcn⟩ : ∃ c : Nat, (Jcy (l.take i))[n]? = some (.int .i64 (c : Int)) ∧ c ≤ l.length := by
    rcases hcl with rfl | rfl | rfl
    ·exact ⟨_, rfl, e0⟩
    ·exact ⟨_, rfl, e1⟩
    ·exact ⟨_, rfl, e2⟩
   have hlc := Jb (P := Tryz.prog) (off := n) a3 z3 hb2 hc
   have hnl : n < (Jcy (l.take i)).length := by show n < 3; omega
   have hw := JaE (P := Tryz.prog) (t := 3) (off := n) (v := .int .i64 ((c : Int) + 1)) z3 hb2 hnl rfl
   have hset : (Jcy (l.take i)).set n (.int .i64 ((c : Int) + 1)) = Jcy (l.take (i + 1)) := by
    rcases hcl with rfl | rfl | rfl
    ·have : (Jao 0 (l.take i) : Int) = (c : Int) := by simpa [Jcy] using hc
     simp [Jcy, h0, h1, h2, this, JoB, JoC]
    ·have : (Jao 1 (l.take i) : Int) = (c : Int) := by simpa [Jcy] using hc
     simp [Jcy, h0, h1, h2, this, JoD, JoE]
    ·have : (Jao 2 (l.take i) : Int) = (c : Int) := by simpa [Jcy] using hc
     simp [Jcy, h0, h1, h2, this, JoF, JoG]
   rw [hset] at hw
   refine Kk_ (Ks_ ?_)
   refine Kb_ fun K4 gn4 gx4 go4 => ?_
   refine Ks_ (Ka_ (gs := [none, none, none, none]) fun K1 gK => ?_)
   simp (disch := omega) [hF, JaI, hlt, hix, hld, hst, JK, V.cells, Qb, JN]
   refine gK _ _ (Ka_ (gs := [none, none, none, none, none, none, none]) fun K1 gK => ?_)
   simp (disch := omega) [hF, lb, hc2, ha, hlc, hw]
   refine gK _ _ (gn4 _ _ (Ka_ (gs := [none, none]) fun K1 gK => ?_))
   simp (disch := omega) [hF]
   refine gK _ _ ?_
   refine gk3 (i + 1) _ _ (by omega) ⟨by simp [Fs, hF], by omega, Keep.put (hk.trans (hk1.trans hk2)) (Nat.le_refl _) _, (by have := hk1.ctr; have := hk2.ctr; show st.ctr < s2.ctr; omega), by simp [Tr.get_put]⟩
  ·
   refine Kf_ (by simp (disch := omega) [hlt]) ?_
   exact Kx_ (gx3 _ _ ⟨by simp [Fs, hF, hlt], hk, hct, by rw [List.take_of_length_le (by omega)] at hb; exact hb⟩)
 ·as_aux_lemma =>
  clear hF
  rintro fr st' ⟨hF, hk, hct, hb⟩
  simp only [Fs] at hF
  have l0 := Jb (P := Tryz.prog) (off := 0) (v := .int .i64 (Jao 0 l : Int)) a3 z3 hb rfl
  have l1 := Jb (P := Tryz.prog) (off := 1) (v := .int .i64 (Jao 1 l : Int)) a3 z3 hb rfl
  have l2 := Jb (P := Tryz.prog) (off := 2) (v := .int .i64 (Jao 2 l : Int)) a3 z3 hb rfl
  refine Ks_ (Kh_ (b := [0, 1, 0, 4, 0, 16, 3, 79, 255]) (gs := [none, none, none, none, none, none, none, none, none]) fun K1 gK => ?_)
  simp (disch := omega) [hF, cA0, cA1, cA2, l0, l1, l2]
  refine gK _ _ (Kq_ (gr _ _ ?_))
  simp [Jx, Tryz.f20, hF]
  refine hR _ _ ?_
  exact ⟨rfl, hk.tick 9⟩
end Go.Vm
namespace Go.Vm
open Go Go.Proofs Go.Pa
attribute [local simp] OkS QL OkG Qu QB OkD Qd Qn JS Jh Jn vop Ju JG ev evs toV Jm Fr.dsTo Fr.glTo Fr.toNone Jj Jk Jl Qj QN Jc JL Jv V.undef J5 JV Qo Qg Qh Qk Qp Qq JU J8 Qr Ql JX Qs JC JF JE Jz JM Jo JW J2 JK Qb
theorem Jeh {P : Program} {kk : Bool} {T : TypeId} {x y : S} (h : x.n + y.n < 1000000000000000) : Jd P kk .add T (.str x) (.str y) = some (.str (x.app y)) := by
 have : Nat.ble (Nat.add x.n y.n) maxStr = true := Nat.ble_eq_true_of_le (by show x.n + y.n ≤ maxStr; unfold maxStr; omega)
 simp only [Jd, this]
def Jku (s : Sw) : List UInt8 := (Jcn s).flatMap fun z => z ++ [10]
def allB (l : List Sw) : List UInt8 := l.flatMap Jku
def Jjz (l : List Sw) : Bool := l.all JcL
def Jqb (l : List Sw) (v : V) : Prop := ∃ t : S, v = .tup [.str t, .int .i64 ((cond (Jjz l) 0 4 : Nat) : Int)] ∧ t.toList = cond (Jjz l) (allB l) []
theorem Jfm {l : List Sw} {i : Nat} (h : i < l.length) : allB (l.take (i + 1)) = allB (l.take i) ++ Jku l[i] := by
 unfold allB
 rw [List.take_add_one, List.getElem?_eq_getElem h, List.flatMap_append]; simp
theorem Jc5 {l : List Sw} {i : Nat} (h : i < l.length) (hM : JcL l[i] = false) : Jjz l = false := by
 cases hL : Jjz l with
 | false => rfl
 | true => have := List.all_eq_true.1 hL _ (List.getElem_mem h); rw [hM] at this; cases this
theorem JhX {l : List Sw} {i : Nat} (h : ∀ j (h : j < l.length), j < i → JcL l[j] = true) (hi : l.length ≤ i) : Jjz l = true := List.all_eq_true.2 fun s hs => by
 obtain ⟨j, hj, rfl⟩ := List.getElem_of_mem hs
 exact h j hj (by omega)
theorem JhY {B : Nat} : ∀ {l : List (List UInt8)}, (∀ z ∈ l, z.length ≤ B) → (l.flatMap fun z => z ++ [10]).length ≤ (B + 1) * l.length
 | [], _ => Nat.zero_le _
 | z :: l, h => by
  have := JhY (l := l) fun t ht => h t (by simp [ht])
  have := h z (by simp)
  simp only [List.flatMap_cons, List.length_append, List.length_cons, List.length_nil, Nat.mul_add]; omega
theorem JoI {s : Sw} (hs : s.small) (hM : JcL s = true) : ∀ z ∈ Jcn s, z.length ≤ 1000000 := by
 obtain ⟨hmf, hmt, hcd, hcd0⟩ := JdV hM
 have hl := hs.len
 have hn := hs.nodes
 intro z hz
 simp only [Jcn, List.mem_cons, List.mem_append, List.mem_map] at hz
 rcases hz with rfl | (⟨y, hy, rfl⟩ | ⟨y, hy, rfl⟩) | hz
 ·have h1 := JgQ (classN s)
  have h2 := QK s.why.toList
  have h3 := hs.why
  rw [S.len] at h2
  unfold JbI
  cases hi : s.inc with
  | true => simp only [cond_true, List.length_append, List.length_cons, List.length_nil]; omega
  | false =>
   have h4 := Jkp (n := s.code.toNat) (by have := hcd hi; omega)
   simp only [cond_false, List.length_append, List.length_cons, List.length_nil]; omega
 ·have := Jkq hmf hs.facts (by omega) hy
  simp only [Jal, List.length_append, List.length_cons, List.length_nil]; omega
 ·have := Jjx hmf hs.facts (by omega) hs.tree hmt [] (by simp; omega) (by simp) y hy
  simp only [Jal, List.length_append, List.length_cons, List.length_nil]; omega
 ·have h1 := QK s.out.toList
  have h2 := QK s.err.toList
  have h3 := hs.out
  have h4 := hs.err
  rw [S.len] at h1 h2
  unfold JhU at hz
  revert hz
  cases decide (s.out.n = 0) <;> cases decide (s.err.n = 0) <;> simp only [cond_true, cond_false, List.mem_append, List.mem_singleton, List.not_mem_nil, false_or, or_false] <;> intro hz
  ·rcases hz with rfl | rfl <;> simp only [Jal, List.length_append, List.length_cons, List.length_nil] <;> omega
  ·subst hz; simp only [Jal, List.length_append, List.length_cons, List.length_nil]; omega
  ·subst hz; simp only [Jal, List.length_append, List.length_cons, List.length_nil]; omega
  ·cases hz
theorem Jnv {s : Sw} (hs : s.small) (hok : s.ok) (hM : JcL s = true) {ts : List S} (h : ts.map S.toList = Jcn s) : ts.length ≤ 1000 ∧ (∀ t ∈ ts, t.n ≤ 1000000) ∧ (Jku s).length ≤ 1000001000 ∧ 1 ≤ ts.length := by
 have h1 : ts.length ≤ 1000 := Jma hs hok hM (by rw [cond_true]; exact h)
 have h2 := JoI hs hM
 have h3 := congrArg List.length h
 rw [List.length_map] at h3
 have h4 := JhY h2
 refine ⟨h1, fun t ht => ?_, ?_, ?_⟩
 ·have := h2 t.toList (by rw [← h]; exact List.mem_map_of_mem ht)
  rwa [S.len] at this
 ·unfold Jku; omega
 ·rw [h3]; simp [Jcn]
theorem Jlu {c : UInt8} : ∀ (a : List UInt8) (r : List S), (a ++ r.flatMap fun s => c :: s.toList) ++ [c] = (a ++ [c]) ++ (r.map S.toList).flatMap fun z => z ++ [c]
 | a, [] => by simp
 | a, s :: r => by
  have := Jlu (c := c) (a ++ c :: s.toList) r
  simp only [List.flatMap_cons, List.map_cons, List.append_assoc] at this ⊢
  rw [this]
  simp
theorem Jnw {s : Sw} {ts : List S} (h : ts.map S.toList = Jcn s) : Jby 10 ts ++ [10] = Jku s := by
 unfold Jku
 rw [← h]
 cases ts with
 | nil => simp [Jcn] at h
 | cons a r => rw [Jby, Jlu, List.map_cons, List.flatMap_cons]
def BldW (b : Nat) (st : St) (l : List UInt8) : Prop := (st.box.get b = some (.cells [.nilp, .nils] 64 true (some 0)) ∧ l = [] ∧ b < st.ctr) ∨ (Bld b b st l ∧ l ≠ [])
theorem Bld.keep {lo b : Nat} {st st' : St} {l : List UInt8} (h : Bld lo b st l) (k : Keep st st') : Bld lo b st' l := by
 obtain ⟨y, b1, hlo, hbc, hm, hv⟩ := h
 exact ⟨y, (k.box b hbc).trans b1, hlo, Nat.lt_of_lt_of_le hbc k.ctr, hm.keep k, hv⟩
theorem BldW.keep {b : Nat} {st st' : St} {l : List UInt8} (h : BldW b st l) (k : Keep st st') : BldW b st' l := by
 rcases h with ⟨h1, h2, h3⟩ | h
 ·exact .inl ⟨(k.box b h3).trans h1, h2, Nat.lt_of_lt_of_le h3 k.ctr⟩
 ·exact .inr ⟨h.1.keep k, h.2⟩
theorem Jnx {st : St} {t : TypeId} : Jce Tryz.prog st t .nilp (.int .i64 0) = some (.str ⟨0, 0⟩, st) := by simp only [Jce, JaO]
theorem Jny {b : Nat} {st : St} (h : st.box.get b = some (.cells [.ptr b 0, .nils] 64 true (some 0))) (hb : b < st.ctr) : Bld b b st [] := ⟨.nils, h, Nat.le_refl _, hb, .nils, fun h => h⟩
variable [Memo] [NY] [NZ]
omit [NZ] in
set_option maxRecDepth 100000 in
theorem Jme (gl : Gl) (st : St) (b : Nat) (s : S) (hb : st.box.get b = some (.cells [.nilp, .nils] 64 true (some 0))) (hbc : b < st.ctr) (hl : s.n ≤ 1000000000000) :
  Says Tryz.prog gl 38 [.ptr b 0, .str s] st (fun _v st' => Bld b b st' s.toList ∧ Low b st st') := by
 refine Qa (NY.no _ rfl rfl rfl _ _) Tryz.func38 rfl (by kernel_rfl) fun R hR K gr gn => ?_
 generalize hfr : Jy gl [.ptr b 0, .str s] = fr
 have hF : Fs gl [(0, .ptr b 0), (1, .str s)] fr := by subst hfr; simp [Fs]
 simp only [Fs] at hF
 clear hfr
 obtain ⟨v, q1, hcc, hq1⟩ := Says.use (Jd6 gl st b hb)
 have b1 : q1.box.get b = some (.cells [.ptr b 0, .nils] 64 true (some 0)) := by rw [hq1, Ji, if_pos rfl]
 have hc1 : q1.ctr = st.ctr := by rw [hq1, JI]
 have hl1 : Low b st q1 := ⟨by omega, fun i hi => by rw [hq1, Ji, if_neg (by omega)]⟩
 clear hq1
 obtain ⟨y, b1, hlo, hbc', hm, hv⟩ := Jny b1 (by omega)
 have l1 := Jb (P := Tryz.prog) (off := 1) a91 z91 b1 rfl
 obtain ⟨z, q2, ha, hl2, hm2, hv2, ho2⟩ := JmU hm (Jgy q1 s) (by omega) (by rw [Qm, Qm, S.len]; simp; omega)
 have b2 := (ho2 b hbc' hv).trans b1
 have hvz : ¬ vid z b := fun h => by
  rcases hv2 b h with h | h
  ·exact hv h
  ·omega
 have w := JaE (P := Tryz.prog) (st := q2) (t := 62) (off := 1) (v := z) z91 b2 (by simp) hm2.sim
 have ls := QT Tryz.underlying9 (s := s)
 refine Ks_ (Ka_ (gs := [none, none]) fun K1 gK => ?_)
 simp (disch := omega) []
 refine gK _ _ (Ks_ (Ka_ (gs := [none, none]) fun K1 gK => ?_))
 simp (disch := omega) [hF, hcc]
 refine gK _ _ (Ks_ (Ka_ (gs := [none, none, none, none, none, none, none, none, none, none]) fun K1 gK => ?_))
 simp (disch := omega) [hF, fb1, l1, ha, w, Tryz.underlying9]
 refine gK _ _ (Ks_ (Ka_ (gs := [none, none, none, none]) fun K1 gK => ?_))
 simp (disch := omega) [hF, ls]
 refine gK _ _ (Kq_ (gr _ _ ?_))
 simp [Jx, Tryz.f38, hF]
 refine hR _ _ ?_
 have hbb : (q2.put b (.cells [.ptr b 0, z] 64 true (some 0))).box.get b = some (.cells [.ptr b 0, z] 64 true (some 0)) := by rw [Ji, if_pos rfl]
 refine ⟨⟨z, hbb, hlo, by have := hl2.ctr; show b < q2.ctr; omega, ?_, hvz⟩, hl1.trans ⟨hl2.ctr, fun i hi => ?_⟩⟩
 ·exact hm2.stab (Nat.le_refl _) fun i hi => by
   show (q2.put b _).box.get i = _
   rw [Ji, if_neg (by rintro rfl; exact hvz hi)]
 ·show (q2.put b _).box.get i = _
  rw [Ji, if_neg (by omega)]; exact hl2.box i hi
omit [NZ] in
set_option maxRecDepth 100000 in
theorem Jkv (gl : Gl) (st : St) (b : Nat) (hb : st.box.get b = some (.cells [.nilp, .nils] 64 true (some 0))) (hbc : b < st.ctr) :
  Says Tryz.prog gl 40 [.ptr b 0] st (fun v st' => v = .str ⟨0, 0⟩ ∧ Low b st st') := by
 refine Qa (NY.no _ rfl rfl rfl _ _) Tryz.func40 rfl (by kernel_rfl) fun R hR K gr gn => ?_
 generalize hfr : Jy gl [.ptr b 0] = fr
 have hF : Fs gl [(0, .ptr b 0)] fr := by subst hfr; simp [Fs]
 simp only [Fs] at hF
 clear hfr
 have l1 := Jb (P := Tryz.prog) (off := 1) a91 z91 hb rfl
 have ln : Q2 Tryz.prog 62 .nils = some (.int .i64 0) := by simp only [Q2, u91]
 refine Ks_ (Ka_ (gs := [none]) fun K1 gK => ?_)
 simp (disch := omega) []
 refine gK _ _ (Ks_ (Kh_ (b := [0, 1, 3, 7, 15, 0, 32, 96, 224, 480, 1023, 2047]) (gs := [none, none, none, none, none, none, none, none, none, none, none, none]) fun K1 gK => ?_))
 simp (disch := omega) [hF, fb1, l1, ln, Jnx]
 refine gK _ _ (Kq_ (gr _ _ ?_))
 simp [Jx, Tryz.f40, hF]
 refine hR _ _ ?_
 exact ⟨rfl, Low.of (Jca _ _) (by omega)⟩
omit [NZ] in
theorem Jmf (gl : Gl) (st : St) (b : Nat) (l : List UInt8) (s : S) (hb : BldW b st l) (hl : l.length + s.n ≤ 1000000000000) :
  Says Tryz.prog gl 38 [.ptr b 0, .str s] st fun _v st' => Bld b b st' (l ++ s.toList) ∧ Low b st st' := by
 rcases hb with ⟨h1, rfl, h3⟩ | h
 ·exact Jme gl st b s h1 h3 (by simpa using hl)
 ·exact Jb6 gl st b b l s h.1 hl
omit [NZ] in
theorem Jkw (gl : Gl) (st : St) (b : Nat) (l : List UInt8) (hb : BldW b st l) (hl : l.length ≤ 1000000000000) :
  Says Tryz.prog gl 40 [.ptr b 0] st fun v st' => (∃ t : S, v = .str t ∧ t.toList = l) ∧ Low b st st' := by
 rcases hb with ⟨h1, rfl, h3⟩ | h
 ·exact (Jkv gl st b h1 h3).mono fun v st' ⟨h, k⟩ => ⟨⟨_, h, rfl⟩, k⟩
 ·exact Jff gl st b b l h.1 hl h.2
variable [NO]
set_option maxHeartbeats 4000000 in
set_option maxRecDepth 100000 in
theorem JqA (gl : Gl) {aL : List V} (hh : Hits gl aL) (hw0 : gl.get 0 = some classV) (hw1 : gl.get 1 = some kindsV) (hw2 : gl.get 2 = some wordsV) (st : St) (lv : V) (l : List Sw) (hl : Row Sw.cells lv l) (hok : ∀ s ∈ l, s.ok) (hs : ∀ s ∈ l, s.small) (hlen : l.length ≤ 20) :
  Says Tryz.prog gl 18 [lv] st (fun v st' => Jqb l v ∧ Keep st st') := by
 refine Qa (NY.no _ rfl rfl rfl _ _) Tryz.func18 rfl (by kernel_rfl) fun R hR K gr gn => ?_
 generalize hfr : Jy gl [lv] = fr
 have hF : Fs gl [(0, lv)] fr := by subst hfr; simp [Fs]
 simp only [Fs] at hF
 clear hfr
 have ln := hl.len Tryz.underlying38
 refine Ks_ (Ka_ (gs := [none, none]) fun K1 gK => ?_)
 simp (disch := omega) []
 refine gK _ _ (Ks_ (Ka_ (gs := [none]) fun K1 gK => ?_))
 simp (disch := omega) [Jay, JK, V.cells, Qb, JN]
 refine gK _ _ (Ks_ (Ks_ (Ka_ (gs := [none, none, none]) fun K1 gK => ?_)))
 simp (disch := omega) [hF, ln]
 refine gK _ _ ?_
 refine Kl_ (l.length) (fun i fr st' => Fs gl [(4, .ptr st.ctr 0), (9, lv), (10, .int .i64 (l.length : Int)), (11, .int .i64 (i : Int))] fr ∧ i ≤ l.length ∧ (∀ j (h : j < l.length), j < i → JcL l[j] = true) ∧ Keep st st' ∧ BldW st.ctr st' (allB (l.take i)) ∧ (allB (l.take i)).length ≤ 1000001000 * i) (0) (fun fr st' => Fs gl [(4, .ptr st.ctr 0)] fr ∧ Jjz l = true ∧ Keep st st' ∧ BldW st.ctr st' (allB l) ∧ (allB l).length ≤ 100000000000) ?_ ?_ ?_ ?_
 ·exact ⟨by simp [Fs, hF], Nat.zero_le _, fun j _ hj => absurd hj (Nat.not_lt_zero j), (Keep.refl st).new _, .inl ⟨by simp [Tr.get_put], rfl, Nat.lt_succ_self _⟩, Nat.zero_le _⟩
 ·rintro i fr st' ⟨_, hi, hM, hk, hb, hbl⟩
  omega
 ·as_aux_lemma =>
  clear hF
  rintro i fr st' ⟨hF, hi, hM, hk, hb, hbl⟩ K1 gk1 gx1 go1
  simp only [Fs] at hF
  have gr1 := fun fr st h => go1 AE.ret fr st trivial (gr fr st h)
  refine Ks_ (Ka_ (gs := [none]) fun K1 gK => ?_)
  simp (disch := omega) [hF]
  refine gK _ _ (Ks_ ?_)
  by_cases hlt : i < l.length
  ·
   refine Kt_ (by simp (disch := omega) [hlt]) ?_
   have hoi := hok _ (List.getElem_mem hlt)
   have hsi := hs _ (List.getElem_mem hlt)
   have hix := hl.ix (fun t _ => t.len12) Tryz.underlying38 Jjk (k := .i64) (a := (i : Int)) (by omega) (by omega)
   have hld := fun st => Jnt (st := st) hlt
   obtain ⟨s1, hst, hc1, hB, hk1⟩ := Jnu (st := st') hoi
   have lb := hB.ld.l
   obtain ⟨v, s2, hc2, ⟨y, ts, rfl, hts, hy⟩, hk2⟩ := Says.use (Jpt gl hh hw0 hw1 hw2 s1 l[i] hoi hsi)
   obtain ⟨M, hMi⟩ : ∃ b, JcL l[i] = b := ⟨_, rfl⟩
   rw [hMi] at hc2 hts
   refine Kk_ (Ks_ ?_)
   refine Kb_ fun K2 gn2 gx2 go2 => ?_
   have gr2 := fun fr st h => go2 AE.ret fr st trivial (gr1 fr st h)
   refine Ks_ (Ka_ (gs := [none, none, none, none]) fun K1 gK => ?_)
   simp (disch := omega) [hF, JaI, hlt, hix, hld, hst, JK, V.cells, Qb, JN]
   refine gK _ _ (Ks_ (Ka_ (gs := [none, none, none, none, none, none, none]) fun K1 gK => ?_))
   simp (disch := omega) [hF, lb, hc2]
   refine gK _ _ (Ks_ (Ks_ (Ka_ (gs := [none, none]) fun K1 gK => ?_)))
   simp (disch := omega) []
   refine gK _ _ ?_
   cases M with
   | true =>
    refine Kf_ (by simp (disch := omega) []) ?_
    rw [cond_true] at hts
    obtain ⟨z1, z2, z3', z4'⟩ := Jnv hsi hoi hMi hts
    obtain ⟨v, s3, hc3, ⟨t1, rfl, ht1⟩, hk3⟩ := Says.use (Jlg gl 10 s2 y ts hy.vw z1 z2)
    have hjs := Jnw hts
    have ht1n : t1.n ≤ 1000001000 := by
     have h1 := congrArg List.length ht1
     have h2 := congrArg List.length hjs
     rw [S.len] at h1
     rw [List.length_append] at h2
     omega
    have ad : ∀ kk, Jd Tryz.prog kk .add 9 (.str t1) (.str (S.ofList [10])) = some (.str (t1.app (S.ofList [10]))) := fun kk => Jeh (by rw [Jf]; simp; omega)
    have hkk := hk1.trans (hk2.trans hk3)
    obtain ⟨v4, s4, hc4, hb4, hl4⟩ := Says.use (Jmf gl s3 st.ctr _ (t1.app (S.ofList [10])) (hb.keep hkk) (by rw [QZ, Jf]; simp; omega))
    rw [S.toList_app, S.toList_ofList, ht1, hjs, ← Jfm hlt] at hb4
    have htk := Jfm hlt
    have hln : (allB (l.take (i + 1))).length ≤ 1000001000 * (i + 1) := by rw [htk, List.length_append]; omega
    have hn1 : allB (l.take (i + 1)) ≠ [] := by rw [htk, ← hjs]; simp
    refine Kk_ (Ka_ (gs := [none, none, none, none]) fun K1 gK => ?_)
    simp (disch := omega) [hF, hc3, ad, hc4]
    refine gK _ _ (gn2 _ _ (Ka_ (gs := [none, none]) fun K1 gK => ?_))
    simp (disch := omega) [hF]
    refine gK _ _ ?_
    refine gk1 (i + 1) _ _ (by omega) ⟨by simp [Fs, hF], by omega, fun j hj hji => by by_cases he : j = i; (subst he; exact hMi); exact hM j hj (by omega), hl4.keep (hk.trans hkk) (Nat.le_refl _), .inr ⟨hb4, hn1⟩, hln⟩
   | false =>
    refine Kt_ (by simp (disch := omega) []) (Ks_ (Ka_ (gs := [none, none, none]) fun K1 gK => ?_))
    simp (disch := omega) []
    refine gK _ _ (Kq_ (gr2 _ _ ?_))
    simp [Jx, Tryz.f18, hF]
    refine hR _ _ ?_
    exact ⟨⟨⟨0, 0⟩, by rw [Jc5 hlt hMi]; rfl, by rw [Jc5 hlt hMi]; rfl⟩, hk.trans (hk1.trans hk2)⟩
  ·
   refine Kf_ (by simp (disch := omega) [hlt]) ?_
   have hle : l.length ≤ i := by omega
   rw [List.take_of_length_le hle] at hb hbl
   exact Kx_ (gx1 _ _ ⟨by simp [Fs, hF, hlt], JhX hM hle, hk, hb, by omega⟩)
 ·as_aux_lemma =>
  clear hF
  rintro fr st' ⟨hF, hM, hk, hb, hbl⟩
  simp only [Fs] at hF
  obtain ⟨v, s5, hc5, ⟨t, rfl, ht⟩, hl5⟩ := Says.use (Jkw gl st' st.ctr (allB l) hb (by omega))
  refine Ks_ (Ka_ (gs := [none, none, none]) fun K1 gK => ?_)
  simp (disch := omega) [hF, hc5]
  refine gK _ _ (Kq_ (gr _ _ ?_))
  simp [Jx, Tryz.f18, hF]
  refine hR _ _ ?_
  exact ⟨⟨t, by rw [hM]; rfl, by rw [hM, ht]; rfl⟩, hl5.keep hk (Nat.le_refl _)⟩
end Go.Vm
