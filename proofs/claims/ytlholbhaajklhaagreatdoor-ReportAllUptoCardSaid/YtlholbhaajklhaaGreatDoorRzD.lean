/- Regions that draw, their guards told ahead; in pieces. -/
import Derived.Test.YtlholbhaajklhaaGreatDoorRz4
import Derived.Test.YtlholbhaajklhaaGreatDoorRzC
namespace Go.Vm
open Go
def QL (P : Program) (ih : CallF) (b : List Nat) (c0 : Nat) : List (Option (Option Nat × Bool)) → List Oper → Nat → Drw → Option Drw
 | g :: gs, o :: r, i, d => match QB d.fr g with
  | false => QL P ih b c0 gs r (i + 1) { fr := Fr.to d.fr o.dst .undef, st := d.st, snaps := (match Ju P o.op with | .e => (i, d.st) :: d.snaps | _ => d.snaps) }
  | true =>
   match Ju P o.op with
   | .p => match JG P d.fr d.st o.op with
    | some v => QL P ih b c0 gs r (i + 1) { d with fr := Fr.to d.fr o.dst v }
    | none => none
   | .r => match d.snaps with
    | (_, s0) :: _ => match JG P d.fr s0 o.op with
     | some v => match JV P d.fr o.op v (b.getD i 0) d.snaps with
      | true => QL P ih b c0 gs r (i + 1) { d with fr := Fr.to d.fr o.dst v }
      | false => none
     | none => none
    | [] => none
   | .a => match JK P d.fr o.op with
    | some (cs, e, n) => match cs.all JN with
     | true => QL P ih b c0 gs r (i + 1) { fr := Fr.to d.fr o.dst (Qb (c0 + i) n), st := { d.st with box := d.st.box.put (c0 + i) (.cells cs e true (some 0)) }, snaps := d.snaps }
     | false => none
    | none => none
   | .e => match Qj P ih d.fr d.st o.op with
    | .val v st' => QL P ih b c0 gs r (i + 1) { fr := Fr.to d.fr o.dst v, st := st', snaps := (i, st') :: d.snaps }
    | _ => none
 | _, _, _, d => some d
theorem JhS {P : Program} {ih : CallF} {ops : Array Oper} {b : List Nat} {c0 : Nat} : ∀ (l : List Oper) (i : Nat) (d : Drw), QL P ih b c0 (l.map (Jch ops)) l i d = JS P ih ops b c0 l i d
 | [], i, d => rfl
 | o :: r, i, d => by
  have ih' := fun j d => JhS (P := P) (ih := ih) (ops := ops) (b := b) (c0 := c0) r j d
  simp only [List.map_cons, QL, JS, Ji2, ih']
  rfl
theorem Jkk {P : Program} {ih : CallF} {b : List Nat} {c0 : Nat} (n : Nat) : ∀ (gs : List (Option (Option Nat × Bool))) (l : List Oper) (i : Nat) (d : Drw), gs.length = l.length → QL P ih b c0 gs l i d =
    match QL P ih b c0 (gs.take n) (l.take n) i d with
    | some d1 => QL P ih b c0 (gs.drop n) (l.drop n) (i + n) d1
    | none => none := by
  induction n with
  | zero => intro gs l i d _; simp [QL]
  | succ n ihn =>
    intro gs l i d h
    cases gs with
    | nil => cases l with
      | nil => simp [QL]
      | cons o r => simp at h
    | cons g gs => cases l with
     | nil => simp at h
     | cons o r =>
      have ih' := fun d => ihn gs r (i + 1) d (by simpa using h)
      rw [show i + 1 + n = i + (n + 1) by omega] at ih'
      simp only [List.take_succ_cons, List.drop_succ_cons, QL]
      cases QB d.fr g with
      | false => exact ih' _
      | true =>
        simp only
        cases Ju P o.op with
        | p =>
          simp only
          cases JG P d.fr d.st o.op with
          | none => rfl
          | some v => exact ih' _
        | r =>
          simp only
          cases d.snaps with
          | nil => rfl
          | cons s sn =>
            simp only
            cases JG P d.fr s.2 o.op with
            | none => rfl
            | some v =>
              simp only
              cases JV P d.fr o.op v (b.getD i 0) (s :: sn) with
              | true => exact ih' _
              | false => rfl
        | a =>
          simp only
          cases JK P d.fr o.op with
          | none => rfl
          | some v =>
            simp only
            cases v.1.all JN with
            | true => exact ih' _
            | false => rfl
        | e =>
          simp only
          cases Qj P ih d.fr d.st o.op with
          | val v st' => exact ih' _
          | panic v st' => rfl
          | fail w => rfl
def OkS [Memo] (P : Program) (b : List Nat) (c0 : Nat) (gs : List (Option (Option Nat × Bool))) (l : List Oper) (i : Nat) (fr : Fr) (st : St) (snaps : List (Nat × St)) (K : Fr → St → List (Nat × St) → Prop) : Prop :=
 match QL P (ihCall (W P)) b c0 gs l i { fr := fr, st := st, snaps := snaps } with
 | some d => K d.fr d.st d.snaps
 | none => False
theorem OkS.cutK [Memo] {P : Program} {b : List Nat} {c0 : Nat} {gs : List (Option (Option Nat × Bool))} {l : List Oper} {i : Nat} {fr : Fr} {st : St} {snaps : List (Nat × St)} {Q : Fr → St → List (Nat × St) → Prop} (n : Nat) (M : Fr → St → List (Nat × St) → Prop) (hlen : Nat.beq gs.length l.length = true)
  (h : ∀ K : Fr → St → List (Nat × St) → Prop, (∀ fr' st' sn, M fr' st' sn → K fr' st' sn) → OkS P b c0 (gs.take n) (l.take n) i fr st snaps K)
  (k : ∀ fr' st' sn, M fr' st' sn → OkS P b c0 (gs.drop n) (l.drop n) (i + n) fr' st' sn Q) : OkS P b c0 gs l i fr st snaps Q := by
 have h1 := h M fun _ _ _ h => h
 unfold OkS at h1 ⊢
 rw [Jkk n gs l i _ (Nat.eq_of_beq_eq_true hlen)]
 cases hx : QL P (ihCall (W P)) b c0 (gs.take n) (l.take n) i { fr := fr, st := st, snaps := snaps } with
 | some d => rw [hx] at h1; exact k d.fr d.st d.snaps h1
 | none => rw [hx] at h1; exact h1.elim
theorem Kd_ [Memo] {P : Program} {rd : Option Nat} {fr : Fr} {st : St} {Q : AE → Fr → St → Prop} {id : Nat} {ops : Array Oper} {k : List Code} {b : List Nat} {gs : List (Option (Option Nat × Bool))} (hb : QH ops = b) (hl : Jdg P ops b = List.range' 0 ops.toList.length) (hp : Jbe P ops b (List.range' 0 ops.toList.length) = true) (hg : ops.toList.map (Jch ops) = gs)
  (h : ∀ K : Fr → St → Prop, (∀ fr' st', DoK P rd k fr' st' Q → K fr' st') →
   OkS P b st.ctr gs ops.toList 0 fr { ctr := st.ctr + ops.size, box := st.box } [(ops.size, { ctr := st.ctr + ops.size, box := st.box })] fun fr st _ => K fr st) : DoK P rd (.region id ops true :: k) fr st Q := by
 refine Kg_ hb hl hp fun K hK => ?_
 have h1 := h K hK
 unfold OkS at h1
 unfold OkD
 rw [← JhS, hg]
 exact h1
theorem Kh_ [Memo] {P : Program} {rd : Option Nat} {fr : Fr} {st : St} {Q : AE → Fr → St → Prop} {id : Nat} {ops : Array Oper} {k : List Code} {b : List Nat} {gs : List (Option (Option Nat × Bool))} (h : ∀ K : Fr → St → Prop, (∀ fr' st', DoK P rd k fr' st' Q → K fr' st') →
   OkS P b st.ctr gs ops.toList 0 fr { ctr := st.ctr + ops.size, box := st.box } [(ops.size, { ctr := st.ctr + ops.size, box := st.box })] fun fr st _ => K fr st) (hb : QH ops = b := by kernel_rfl) (hl : Jdg P ops b = List.range' 0 ops.toList.length := by kernel_rfl) (hp : Jbe P ops b (List.range' 0 ops.toList.length) = true := by kernel_rfl) (hg : ops.toList.map (Jch ops) = gs := by kernel_rfl) : DoK P rd (.region id ops true :: k) fr st Q := Kd_ hb hl hp hg h
end Go.Vm
namespace Go.Vm
open Go Go.Proofs Go.Pa
attribute [local simp] OkS QL OkG Qu QB OkD Qd Qn JS Jh Jn vop Ju JG ev evs toV Jm Fr.dsTo Fr.glTo Fr.toNone Jj Jk Jl Qj QN Jc JL Jv V.undef J5 JV Qo Qg Qh Qk Qp Qq JU J8 Qr Ql JX Qs JC JF JE Jz JM Jo JW J2 JK Qb
theorem JgJ : ∀ (a b : List V), Jad (a ++ b) + 1 = Jad a + Jad b
 | [], b => by simp only [List.nil_append, Jad]; omega
 | x :: a, b => by
  have := JgJ a b
  simp only [List.cons_append, Jad]; omega
theorem JhT : ∀ {kids : List Tw}, (∀ t ∈ kids, Jad t.cells ≤ 1000 * t.nodes) → Jad (kids.flatMap Tw.cells) ≤ 1000 * QC kids + 1
 | [], _ => Nat.le_of_ble_eq_true rfl
 | t :: r, h => by
  have h1 := h t (by simp)
  have h2 := JhT (kids := r) fun u hu => h u (by simp [hu])
  have h3 := JgJ t.cells (r.flatMap Tw.cells)
  rw [List.flatMap_cons]
  simp only [QC]
  omega
theorem Jkl {kv : V} {kids : List Tw} (h : Row Tw.cells kv kids) (hs : ∀ t ∈ kids, Jad t.cells ≤ 1000 * t.nodes) : vsz kv ≤ 1000 * QC kids + 2 := by
 cases h with
 | nils => exact Nat.le_trans (Nat.le_of_ble_eq_true rfl) (Nat.le_add_left 2 _)
 | sl l ex => have := JhT hs; show Jad (kids.flatMap Tw.cells) + 1 ≤ _; omega
theorem Jir {t : Tw} (hok : t.ok) : t.small → Jad t.cells ≤ 1000 * t.nodes := by
 induction hok with
 | mk ref kind text base nv names kv kids hk hn hkv hks ih =>
  intro hs
  cases hs with
  | mk _ _ _ _ _ _ _ _ ht hnl hnt hkl hks' =>
   have h1 := JaG hn
   have h2 := Jkl hkv fun t ht => ih t ht (hks' t ht)
   simp only [Tw.cells, Jad, vsz, Tw.nodes]
   omega
variable [Memo] [NY]
set_option maxHeartbeats 16000000 in
set_option maxRecDepth 100000 in
theorem Jl6 (gl : Gl) (st : St) (x : V) (l : List Fw) (hx : Row Fw.cells x l) (ref : Int) (kind : Nat) (text : S) (base : Int) (nv : V) (names : List S) (kv : V) (kids : List Tw) (hk : kind < 256) (hn : Row sC nv names) (hkv : Row Tw.cells kv kids) (hks : ∀ t ∈ kids, t.ok) (htx : text.n ≤ 100000) (hnl : names.length ≤ 1000) (hkl : kids.length ≤ 1000) (hvk : veq 1000000000 kv kv = true) (hvt : ∀ t ∈ kids, veq 1000000000 (.agg t.cells) (.agg t.cells) = true) (ih : ∀ t ∈ kids, Jp5 gl x l t) :
  Says Tryz.prog gl 36 [x, .agg (Tw.mk ref kind text base nv names kv kids).cells] st (fun v st' => v = .bool (JaH l (Tw.mk ref kind text base nv names kv kids)) ∧ Keep st st') := by
 refine Qa (NY.no _ rfl rfl rfl _ _) Tryz.func36 rfl (by kernel_rfl) fun R hR K gr gn => ?_
 generalize hfr : Jy gl [x, .agg (Tw.mk ref kind text base nv names kv kids).cells] = fr
 have hF : Fs gl [(0, x), (1, .agg (Tw.mk ref kind text base nv names kv kids).cells)] fr := by subst hfr; simp [Fs]
 simp only [Fs] at hF
 clear hfr
 have ho := Tw.ones (Tw.ok.mk ref kind text base nv names kv kids hk hn hkv hks)
 have kq := Qx st (Tw.mk ref kind text base nv names kv kids).cells 26
 have hb := Q6 st (Tw.mk ref kind text base nv names kv kids).cells 26
 have hT := TwBox.new (st := st) (s := Tw.mk ref kind text base nv names kv kids)
 generalize Jau st (Tw.mk ref kind text base nv names kv kids).cells 26 = q at kq hb hT
 obtain ⟨l0, l1, l2, l3, l4, l5, lt⟩ := hT.ld
 have lx := hx.len Tryz.underlying22
 have ln := hn.len Tryz.underlying23
 have lk := hkv.len Tryz.underlying24
 have hsm := Qw text
 have hmy : JaH l (Tw.mk ref kind text base nv names kv kids) = cond (decide (ref = -1))
   (cond (decide (kind = 2)) (decide (text.n = 0) && (decide (names.length = kids.length) && ((decide (base = -1) || JeI l base) && (Q1 names && Jbj l kids))))
    (cond (decide (kind = 0)) (decide (text.n = 0) && (decide (base = -1) && (decide (names.length = 0) && decide (kids.length = 0))))
     (decide (base = -1) && (decide (names.length = 0) && (decide (kids.length = 0) && JeH kind text)))))
   (decide (0 ≤ ref) && (decide (ref < (l.length : Int)) && (decide (base = -1) && (decide (kind = 0) && (decide (text.n = 0) && (decide (names.length = 0) && decide (kids.length = 0))))))) := rfl
 obtain ⟨R0, hR0⟩ : ∃ b, decide (ref = -1) = b := ⟨_, rfl⟩
 obtain ⟨A, hA⟩ : ∃ b, decide (0 ≤ ref) = b := ⟨_, rfl⟩
 obtain ⟨C, hC⟩ : ∃ b, decide (ref < (l.length : Int)) = b := ⟨_, rfl⟩
 obtain ⟨E, hE⟩ : ∃ b, decide (text.n = 0) = b := ⟨_, rfl⟩
 obtain ⟨L, hL⟩ : ∃ b, decide (names.length = kids.length) = b := ⟨_, rfl⟩
 obtain ⟨B, hB⟩ : ∃ b, decide (base = -1) = b := ⟨_, rfl⟩
 obtain ⟨D, hD⟩ : ∃ b, JeI l base = b := ⟨_, rfl⟩
 obtain ⟨N0, hN0⟩ : ∃ b, decide (names.length = 0) = b := ⟨_, rfl⟩
 obtain ⟨J0, hJ0⟩ : ∃ b, decide (kids.length = 0) = b := ⟨_, rfl⟩
 obtain ⟨Z0, hZ0⟩ : ∃ b, decide (kind = 0) = b := ⟨_, rfl⟩
 obtain ⟨Z2, hZ2⟩ : ∃ b, decide (kind = 2) = b := ⟨_, rfl⟩
 have er : ∀ kk, Jd Tryz.prog kk .neq 3 (.int .i64 ref) (.int .i64 (-1)) = some (.bool (!R0)) := fun kk => by rw [← hR0]; exact Jcf
 have ea : ∀ kk, Jd Tryz.prog kk .geq 3 (.int .i64 ref) (.int .i64 0) = some (.bool A) := fun kk => by rw [← hA]; exact JP
 have ec : ∀ kk, Jd Tryz.prog kk .lss 3 (.int .i64 ref) (.int .i64 (l.length : Int)) = some (.bool C) := fun kk => by rw [← hC]; exact J1
 have e0 : ∀ kk, Jd Tryz.prog kk .eql 5 (.int .u8 (kind : Int)) (.int .u8 0) = some (.bool Z0) := fun kk => by rw [← hZ0]; exact JU
 have e0' : ∀ kk, Jd Tryz.prog kk .neq 5 (.int .u8 (kind : Int)) (.int .u8 0) = some (.bool (!Z0)) := fun kk => by rw [← hZ0]; exact J8
 have e2 : ∀ kk, Jd Tryz.prog kk .neq 5 (.int .u8 (kind : Int)) (.int .u8 2) = some (.bool (!Z2)) := fun kk => by rw [← hZ2]; exact J8
 have eb : ∀ kk, Jd Tryz.prog kk .eql 3 (.int .i64 base) (.int .i64 (-1)) = some (.bool B) := fun kk => by rw [← hB]; exact Qc
 have eb' : ∀ kk, Jd Tryz.prog kk .neq 3 (.int .i64 base) (.int .i64 (-1)) = some (.bool (!B)) := fun kk => by rw [← hB]; exact Jcf
 have en : ∀ kk, Jd Tryz.prog kk .eql 3 (.int .i64 (names.length : Int)) (.int .i64 0) = some (.bool N0) := fun kk => by rw [← hN0]; exact JU
 have en' : ∀ kk, Jd Tryz.prog kk .neq 3 (.int .i64 (names.length : Int)) (.int .i64 0) = some (.bool (!N0)) := fun kk => by rw [← hN0]; exact J8
 have ej : ∀ kk, Jd Tryz.prog kk .eql 3 (.int .i64 (kids.length : Int)) (.int .i64 0) = some (.bool J0) := fun kk => by rw [← hJ0]; exact JU
 have ej' : ∀ kk, Jd Tryz.prog kk .neq 3 (.int .i64 (kids.length : Int)) (.int .i64 0) = some (.bool (!J0)) := fun kk => by rw [← hJ0]; exact J8
 have el : ∀ kk, Jd Tryz.prog kk .neq 3 (.int .i64 (names.length : Int)) (.int .i64 (kids.length : Int)) = some (.bool (!L)) := fun kk => by rw [← hL]; exact Qg
 rw [hE] at hsm
 rw [hR0, hA, hC, hB, hZ0, hZ2, hE, hN0, hJ0, hL, hD] at hmy
 rw [hmy] at hR
 refine Ks_ (Ka_ (gs := [none, none]) fun K1 gK => ?_)
 simp (disch := omega) [hF, Ja, ho, hb]
 refine gK _ _ (Ks_ (Ks_ (Ka_ (gs := [none, none, none]) fun K1 gK => ?_)))
 simp (disch := omega) [gT0, l0, er]
 refine gK _ _ ?_
 cases R0 with
 | true =>
  refine Kf_ (by simp (disch := omega) []) (Kk_ (Ks_ (Ks_ (Ka_ (gs := [none, none, none]) fun K1 gK => ?_))))
  simp (disch := omega) [gT1, l1, e2]
  refine gK _ _ ?_
  cases Z2 with
  | true =>
   refine Kf_ (by simp (disch := omega) []) (Kk_ (Ks_ (Ks_ (Ka_ (gs := [none, none, none, none, some (some 88, false), some (some 88, false), some (some 88, false), some (some 88, false), some (some 88, false), some (some 88, false), some (some 88, false), none, none, some (some 97, false), some (some 97, false), some (some 97, false), some (some 97, false), some (some 101, true), some (some 101, true), some (some 101, true), some (some 101, true), some (some 105, false), some (some 105, false), some (some 105, false), some (some 105, false), some (some 105, false), some (some 101, true), some (some 101, true), some (some 112, false), some (some 112, false), some (some 112, false), some (some 112, false), some (some 112, false), some (some 112, false), some (some 112, false), some (some 101, true), some (some 101, true), some (some 121, false), some (some 121, false), some (some 121, false), some (some 121, false), some (some 121, false), some (some 121, false), some (some 121, false), some (some 101, true), some (some 97, false), none]) fun K1 gK => ?_))))
   refine OkG.cutK 12 (fun fr st' => Fs gl [(0, x), (3, .ptr st.ctr 0), (96, .bool (!(E && L)))] fr ∧ q = st') (by kernel_rfl) ?_ ?_
   ·as_aux_lemma =>
    intro Kc gKc
    simp only [List.take]
    cases E with
    | true =>
     simp (disch := omega) [gT2, gT4, gT5, l2, l4, l5, ln, lk, hsm, el]
     exact gKc _ _ ⟨by simp [Fs, hF], rfl⟩
    | false =>
     simp (disch := omega) [gT2, l2, hsm]
     exact gKc _ _ ⟨by simp [Fs, hF], rfl⟩
   ·as_aux_lemma =>
    clear hF
    rintro fr st' ⟨hF, rfl⟩
    simp only [Fs] at hF
    simp only [List.drop]
    obtain ⟨B1, hB1⟩ : ∃ b, (E && L) = b := ⟨_, rfl⟩
    rw [hB1] at hF
    refine OkG.cutK 35 (fun fr st' => Fs gl [(0, x), (3, .ptr st.ctr 0), (131, .bool (!(B1 && (B || D))))] fr ∧ q = st') (by kernel_rfl) ?_ ?_
    ·as_aux_lemma =>
     intro Kc gKc
     simp only [List.take]
     cases B1 with
     | true =>
      cases B with
      | true =>
       simp (disch := omega) [hF, gT3, l3, eb']
       exact gKc _ _ ⟨by simp [Fs, hF], rfl⟩
      | false =>
       have g0 : ∀ kk, Jd Tryz.prog kk .lss 3 (.int .i64 base) (.int .i64 0) = some (.bool (!decide (0 ≤ base))) := fun kk => by
        rw [J1]
        by_cases h : 0 ≤ base
        ·rw [decide_eq_true h, decide_eq_false (by omega)]; rfl
        ·rw [decide_eq_false h, decide_eq_true (by omega)]; rfl
       have g1 : ∀ kk, Jd Tryz.prog kk .geq 3 (.int .i64 base) (.int .i64 (l.length : Int)) = some (.bool (!decide (base < (l.length : Int)))) := fun kk => by
        rw [JP]
        by_cases h : base < (l.length : Int)
        ·rw [decide_eq_true h, decide_eq_false (by omega)]; rfl
        ·rw [decide_eq_false h, decide_eq_true (by omega)]; rfl
       simp only [JeI] at hD
       by_cases h0 : 0 ≤ base
       ·
        by_cases h1 : base < (l.length : Int)
        ·
         have hi : base.toNat < l.length := by omega
         have hix := hx.ix (fun f _ => f.len6) Tryz.underlying22 z38 (k := .i64) h0 h1
         have hl := List.getElem?_eq_getElem hi
         have k0 : ∀ st, JB Tryz.prog st 4 (.cp (JcD Fw.cells l base.toNat)) = some (.bool l[base.toNat].known) := fun st => by rw [Jbc hi]; simp only [JB, QS, a4, z4]; rfl
         have k1 : ∀ st, JB Tryz.prog st 5 (.cp (JcD Fw.cells l base.toNat).tail) = some (.int .u8 (l[base.toNat].kind : Int)) := fun st => by rw [Jbc hi]; simp only [JB, QS, a5, z5]; rfl
         rw [decide_eq_true h0, decide_eq_true h1, hl] at hD
         simp only [Jbn, Bool.true_and] at hD
         obtain ⟨A1, hA1⟩ : ∃ b, l[base.toNat].known = b := ⟨_, rfl⟩
         obtain ⟨A2, hA2⟩ : ∃ b, decide (l[base.toNat].kind = 2) = b := ⟨_, rfl⟩
         have k2 : ∀ kk, Jd Tryz.prog kk .neq 5 (.int .u8 (l[base.toNat].kind : Int)) (.int .u8 2) = some (.bool (!A2)) := fun kk => by rw [← hA2]; exact J8
         rw [hA1] at k0
         rw [hA1, hA2] at hD
         subst hD
         cases A1 with
         | true =>
          simp (disch := omega) [hF, gT3, l3, lx, eb', g0, g1, h0, h1, hix, k0, k1, k2, JbG, JbH]
          exact gKc _ _ ⟨by simp [Fs, hF], rfl⟩
         | false =>
          simp (disch := omega) [hF, gT3, l3, lx, eb', g0, g1, h0, h1, hix, k0, JbG]
          exact gKc _ _ ⟨by simp [Fs, hF], rfl⟩
        ·
         rw [decide_eq_true h0, decide_eq_false h1] at hD
         simp only [Bool.true_and, Bool.false_and] at hD
         subst hD
         simp (disch := omega) [hF, gT3, l3, lx, eb', g0, g1, h0, h1]
         exact gKc _ _ ⟨by simp [Fs, hF], rfl⟩
       ·
        rw [decide_eq_false h0] at hD
        simp only [Bool.false_and] at hD
        subst hD
        simp (disch := omega) [hF, gT3, l3, eb', g0, h0]
        exact gKc _ _ ⟨by simp [Fs, hF], rfl⟩
     | false =>
      simp (disch := omega) [hF]
      exact gKc _ _ ⟨by simp [Fs, hF], rfl⟩
    ·as_aux_lemma =>
     clear hF
     rintro fr st' ⟨hF, rfl⟩
     simp only [Fs] at hF
     simp only [List.drop]
     obtain ⟨B2, hB2⟩ : ∃ b, (B1 && (B || D)) = b := ⟨_, rfl⟩
     rw [hB2] at hF
     simp (disch := omega) []
     refine gK _ _ ?_
     have hz0 : (E && (L && ((B || D) && (Q1 names && Jbj l kids)))) = (B2 && (Q1 names && Jbj l kids)) := by rw [← hB2, ← hB1]; cases E <;> cases L <;> rfl
     simp only [cond_true, hz0] at hR
     cases B2 with
     | true =>
      refine Kf_ (by simp (disch := omega) [hF]) ?_
      have hLt : names.length = kids.length := by
       cases L with
       | true => exact of_decide_eq_true hL
       | false => rw [Bool.and_false] at hB1; subst hB1; simp at hB2
      refine Kk_ (Ks_ (Ks_ (Ka_ (gs := [none]) fun K1 gK => ?_)))
      simp (disch := omega) []
      refine gK _ _ ?_
      refine Kl_ (kids.length) (fun i fr st' => Fs gl [(0, x), (3, .ptr st.ctr 0), (5, .int .i64 (i : Int))] fr ∧ i ≤ kids.length ∧ JcZ names i ∧ Jnb l kids i ∧ Keep q st') (0) (fun fr st' => Fs gl [] fr ∧ Q1 names = true ∧ Jbj l kids = true ∧ Keep q st') ?_ ?_ ?_ ?_
      ·exact ⟨by simp [Fs, hF], Nat.zero_le _, fun j hj => absurd hj (Nat.not_lt_zero j), fun j _ hj => absurd hj (Nat.not_lt_zero j), .refl _⟩
      ·rintro i fr st' ⟨_, hi, hN, hM, hkq⟩
       omega
      ·as_aux_lemma =>
       clear hF
       rintro i fr st' ⟨hF, hi, hN, hM, hkq⟩ K1 gk1 gx1 go1
       simp only [Fs] at hF
       have gr1 := fun fr st h => go1 AE.ret fr st trivial (gr fr st h)
       have hT1 := hT.keep hkq
       have n5 := hT1.ld.l5
       refine Ks_ (Ks_ (Ka_ (gs := [none, none, none, none, none]) fun K1 gK => ?_))
       simp (disch := omega) [hF, gT5, lk, n5]
       refine gK _ _ ?_
       by_cases hlt : i < kids.length
       ·
        refine Kt_ (by simp (disch := omega) [hlt]) ?_
        have hltn : i < names.length := by omega
        have hns : ∀ {k : IntKind} {a : Int}, 0 ≤ a → a < (names.length : Int) → Je Tryz.prog 23 nv (.int k a) = some (adr 1 nv a.toNat) := fun h0 h1 => (hn.vw st).ix Tryz.underlying23 z9 h0 h1
        have hxi := hns (k := .i64) (a := (i : Int)) (by omega) (by omega)
        have hnd := fun st => (hn.vw st).ld z9 a9 hltn
        have hkx := hkv.ix (fun t _ => t.len6) Tryz.underlying24 Jio (k := .i64) (a := (i : Int)) (by omega) (by omega)
        have hkd := fun st => Jnc (st := st) hlt
        obtain ⟨q0, hq0⟩ : ∃ q : St, ({ ctr := st'.ctr + 35, box := st'.box } : St) = q := ⟨_, rfl⟩
        have kq0 : Keep st' q0 := by subst hq0; exact ⟨by show st'.ctr ≤ st'.ctr + 35; omega, fun j _ => rfl⟩
        have hct0 : st'.ctr + 35 = q0.ctr := by subst hq0; rfl
        obtain ⟨v, s2, hcn, rfl, hk2⟩ := JmH gl q0 names[i]
        have hcn := Jg (P := Tryz.prog) (ih := ihCall (W Tryz.prog)) (gl := gl) (args := [.str names[i]]) (st := q0) (show JR Tryz.prog 63 = true by kernel_rfl) ▸ JZ hcn
        have hk2' : Keep st' s2 := kq0.trans hk2
        obtain ⟨v, s3, hct, rfl, hk3⟩ := Says.use (ih _ (List.getElem_mem hlt) s2)
        have m4 := (hT1.keep kq0).ld.l4
        have m5 := (hT1.keep kq0).ld.l5
        have hvt1 := hvt _ (List.getElem_mem hlt)
        have m4' := (hT1.keep hk2').ld.l4
        have m5' := (hT1.keep hk2').ld.l5
        have hbd := Jnd hltn
        have e3 : ∀ kk, Jd Tryz.prog kk .gtr 3 (.int .i64 (i : Int)) (.int .i64 0) = some (.bool (decide (0 < i))) := fun kk => JX
        have hpr : decide (0 < i) = true → Je Tryz.prog 23 nv (.int .i64 ((i : Int) - 1)) = some (adr 1 nv (i - 1)) ∧ ∀ st, JB Tryz.prog st 9 (adr 1 nv (i - 1)) = some (.str (names.getD (i - 1) ⟨0, 0⟩)) := fun h => by
         have h0 : 0 < i := of_decide_eq_true h
         have h1 := hns (k := .i64) (a := (i : Int) - 1) (by omega) (by omega)
         rw [show ((i : Int) - 1).toNat = i - 1 by omega] at h1
         refine ⟨h1, fun st => ?_⟩
         have := (hn.vw st).ld z9 a9 (i := i - 1) (by omega)
         rw [this, JdB (by omega)]
        obtain ⟨P, hP⟩ : ∃ b, JbF names[i] = b := ⟨_, rfl⟩
        obtain ⟨D0, hD0⟩ : ∃ b, decide (0 < i) = b := ⟨_, rfl⟩
        obtain ⟨Q, hQ⟩ : ∃ b, leS names[i] (names.getD (i - 1) ⟨0, 0⟩) = b := ⟨_, rfl⟩
        obtain ⟨Mi, hMi⟩ : ∃ b, JaH l kids[i] = b := ⟨_, rfl⟩
        have hvq : veq 1000000000 nv nv = true := Jij (hn.vw st') (by omega)
        rw [hP] at hcn
        rw [hMi] at hct
        rw [hD0] at e3 hpr
        rw [hP, hD0, hQ] at hbd
        refine Kk_ (Ks_ ?_)
        refine Kb_ fun K2 gn2 gx2 go2 => ?_
        have gr2 := fun fr st h => go2 AE.ret fr st trivial (gr1 fr st h)
        refine Ks_ (Kh_ (b := [0, 1, 0, 7, 15, 31, 63, 127, 255, 511, 1023, 2047, 4095, 2047, 16383, 32767, 2047, 67583, 2047, 264191, 985087, 2033663, 4194303, 8388607, 16777215, 33554431, 67108863, 67108863, 201326591, 67108863, 1006632959, 2080374783, 4294967295, 8589934591, 17179869183]) (gs := [none, none, none, none, none, none, none, none, some (some 146, false), some (some 146, false), some (some 146, false), some (some 149, true), some (some 149, true), some (some 149, true), some (some 149, true), some (some 149, true), some (some 149, true), some (some 149, true), some (some 149, true), some (some 149, true), some (some 149, true), some (some 149, true), some (some 149, true), some (some 146, false), none, none, some (some 164, false), some (some 164, false), some (some 164, false), some (some 164, false), some (some 164, false), some (some 164, false), some (some 164, false), some (some 164, false), none]) fun K1 gK => ?_)
        refine OkS.cutK 7 (fun fr st' sn => Fs gl [(0, x), (3, .ptr st.ctr 0), (5, .int .i64 (i : Int)), (145, .bool (!P))] fr ∧ s2 = st' ∧ sn = [(5, s2), (35, q0)]) (by kernel_rfl) ?_ ?_
        ·as_aux_lemma =>
         intro Kc gKc
         simp only [List.take]
         simp (disch := omega) [hF, gT4, hlt, hxi, hnd, hcn, m4, hq0, hvq]
         exact gKc _ _ _ ⟨by simp [Fs, hF], rfl, rfl⟩
        ·as_aux_lemma =>
         clear hF
         rintro fr st' sn ⟨hF, rfl, rfl⟩
         simp only [Fs] at hF
         simp only [List.drop]
         cases P with
         | true =>
          refine OkS.cutK 4 (fun fr st' sn => Fs gl [(0, x), (3, .ptr st.ctr 0), (5, .int .i64 (i : Int)), (145, .bool false), (146, .bool false), (148, .bool D0), (149, .bool D0)] fr ∧ s2 = st' ∧ sn = [(5, s2), (35, q0)]) (by kernel_rfl) ?_ ?_
          ·as_aux_lemma =>
           intro Kc gKc
           simp only [List.take]
           simp (disch := omega) [hF, e3]
           exact gKc _ _ _ ⟨by simp [Fs, hF], rfl, rfl⟩
          ·as_aux_lemma =>
           clear hF
           rintro fr st' sn ⟨hF, rfl, rfl⟩
           simp only [Fs] at hF
           simp only [List.drop]
           cases D0 with
           | true =>
            have hpi := (hpr rfl).1
            have hpl := (hpr rfl).2
            have hq2 : (names[i].less (names[i - 1]'(by omega)) || names[i].same (names[i - 1]'(by omega))) = Q := by rw [← hQ, JdB (show i - 1 < names.length by omega)]; rfl
            refine OkS.cutK 5 (fun fr st' sn => Fs gl [(0, x), (3, .ptr st.ctr 0), (5, .int .i64 (i : Int)), (146, .bool false), (148, .bool true), (149, .bool true), (154, .str names[i])] fr ∧ s2 = st' ∧ sn = [(5, s2), (35, q0)]) (by kernel_rfl) ?_ ?_
            ·as_aux_lemma =>
             intro Kc gKc
             simp only [List.take]
             simp (disch := omega) [hF, gT4, hxi, hnd, m4, m4', hvq]
             exact gKc _ _ _ ⟨by simp [Fs, hF], rfl, rfl⟩
            ·as_aux_lemma =>
             clear hF
             rintro fr st' sn ⟨hF, rfl, rfl⟩
             simp only [Fs] at hF
             simp only [List.drop]
             refine OkS.cutK 9 (fun fr st' sn => Fs gl [(0, x), (3, .ptr st.ctr 0), (5, .int .i64 (i : Int)), (146, .bool false), (148, .bool true), (149, .bool true), (163, .bool Q)] fr ∧ s2 = st' ∧ sn = [(5, s2), (35, q0)]) (by kernel_rfl) ?_ ?_
             ·as_aux_lemma =>
              intro Kc gKc
              simp only [List.take]
              simp (disch := omega) [hF, gT4, m4, m4', hvq, hpi, hpl]
              exact gKc _ _ _ ⟨by simp [Fs, hF, hq2], rfl, rfl⟩
             ·as_aux_lemma =>
              clear hF
              rintro fr st' sn ⟨hF, rfl, rfl⟩
              simp only [Fs] at hF
              simp only [List.drop]
              cases Q with
              | true =>
               simp (disch := omega) [hF]
               refine gK _ _ (Kt_ (by simp (disch := omega) []) (Ks_ (Ka_ (gs := [none]) fun K1 gK => ?_)))
               simp (disch := omega) []
               refine gK _ _ (Kq_ (gr2 _ _ ?_))
               simp [Jx, Tryz.f36, hF]
               refine hR _ _ ?_
               exact ⟨by rw [Jdm hltn hbd]; simp, kq.trans (hkq.trans hk2')⟩
              | false =>
               cases Mi with
               | true =>
                simp (disch := omega) [hF, gT5, hkx, hkd, hct, m5, m5', hvk, hvt1]
                refine gK _ _ (Kf_ (by simp (disch := omega) []) (Kk_ (gn2 _ _ (Ka_ (gs := [none, none, none]) fun K1 gK => ?_))))
                simp (disch := omega) [hF]
                refine gK _ _ ?_
                refine gk1 (i + 1) _ _ (by omega) ⟨by simp [Fs, hF], by omega, Jb4 hN hbd, fun j hj hji => by by_cases he : j = i; exact he ▸ hMi; exact hM j hj (by omega), hkq.trans (hk2'.trans hk3)⟩
               | false =>
                simp (disch := omega) [hF, gT5, hkx, hkd, hct, m5, m5', hvk, hvt1]
                refine gK _ _ (Kt_ (by simp (disch := omega) []) (Ks_ (Ka_ (gs := [none]) fun K1 gK => ?_)))
                simp (disch := omega) []
                refine gK _ _ (Kq_ (gr2 _ _ ?_))
                simp [Jx, Tryz.f36, hF]
                refine hR _ _ ?_
                exact ⟨by rw [JgI hlt hMi]; simp, kq.trans (hkq.trans (hk2'.trans hk3))⟩
           | false =>
            refine OkS.cutK 14 (fun fr st' sn => Fs gl [(0, x), (3, .ptr st.ctr 0), (5, .int .i64 (i : Int)), (146, .bool false), (148, .bool false), (149, .bool false), (163, .bool false)] fr ∧ s2 = st' ∧ sn = [(5, s2), (35, q0)]) (by kernel_rfl) ?_ ?_
            ·as_aux_lemma =>
             intro Kc gKc
             simp only [List.take]
             simp (disch := omega) [hF]
             exact gKc _ _ _ ⟨by simp [Fs, hF], rfl, rfl⟩
            ·as_aux_lemma =>
             clear hF
             rintro fr st' sn ⟨hF, rfl, rfl⟩
             simp only [Fs] at hF
             simp only [List.drop]
             cases Mi with
             | true =>
              simp (disch := omega) [hF, gT5, hkx, hkd, hct, m5, m5', hvk, hvt1]
              refine gK _ _ (Kf_ (by simp (disch := omega) []) (Kk_ (gn2 _ _ (Ka_ (gs := [none, none, none]) fun K1 gK => ?_))))
              simp (disch := omega) [hF]
              refine gK _ _ ?_
              refine gk1 (i + 1) _ _ (by omega) ⟨by simp [Fs, hF], by omega, Jb4 hN hbd, fun j hj hji => by by_cases he : j = i; exact he ▸ hMi; exact hM j hj (by omega), hkq.trans (hk2'.trans hk3)⟩
             | false =>
              simp (disch := omega) [hF, gT5, hkx, hkd, hct, m5, m5', hvk, hvt1]
              refine gK _ _ (Kt_ (by simp (disch := omega) []) (Ks_ (Ka_ (gs := [none]) fun K1 gK => ?_)))
              simp (disch := omega) []
              refine gK _ _ (Kq_ (gr2 _ _ ?_))
              simp [Jx, Tryz.f36, hF]
              refine hR _ _ ?_
              exact ⟨by rw [JgI hlt hMi]; simp, kq.trans (hkq.trans (hk2'.trans hk3))⟩
         | false =>
          refine OkS.cutK 8 (fun fr st' sn => Fs gl [(0, x), (3, .ptr st.ctr 0), (5, .int .i64 (i : Int)), (145, .bool true), (146, .bool true), (149, .tup [])] fr ∧ s2 = st' ∧ sn = [(5, s2), (35, q0)]) (by kernel_rfl) ?_ ?_
          ·as_aux_lemma =>
           intro Kc gKc
           simp only [List.take]
           simp (disch := omega) [hF]
           exact gKc _ _ _ ⟨by simp [Fs, hF], rfl, rfl⟩
          ·as_aux_lemma =>
           clear hF
           rintro fr st' sn ⟨hF, rfl, rfl⟩
           simp only [Fs] at hF
           simp only [List.drop]
           refine OkS.cutK 8 (fun fr st' sn => Fs gl [(0, x), (3, .ptr st.ctr 0), (5, .int .i64 (i : Int)), (146, .bool true), (149, .tup [])] fr ∧ s2 = st' ∧ sn = [(5, s2), (35, q0)]) (by kernel_rfl) ?_ ?_
           ·as_aux_lemma =>
            intro Kc gKc
            simp only [List.take]
            simp (disch := omega) [hF]
            exact gKc _ _ _ ⟨by simp [Fs, hF], rfl, rfl⟩
           ·as_aux_lemma =>
            clear hF
            rintro fr st' sn ⟨hF, rfl, rfl⟩
            simp only [Fs] at hF
            simp only [List.drop]
            refine OkS.cutK 2 (fun fr st' sn => Fs gl [(0, x), (3, .ptr st.ctr 0), (5, .int .i64 (i : Int)), (163, .bool true)] fr ∧ s2 = st' ∧ sn = [(5, s2), (35, q0)]) (by kernel_rfl) ?_ ?_
            ·as_aux_lemma =>
             intro Kc gKc
             simp only [List.take]
             simp (disch := omega) [hF]
             exact gKc _ _ _ ⟨by simp [Fs, hF], rfl, rfl⟩
            ·as_aux_lemma =>
             clear hF
             rintro fr st' sn ⟨hF, rfl, rfl⟩
             simp only [Fs] at hF
             simp only [List.drop]
             simp (disch := omega) [hF]
             refine gK _ _ (Kt_ (by simp (disch := omega) []) (Ks_ (Ka_ (gs := [none]) fun K1 gK => ?_)))
             simp (disch := omega) []
             refine gK _ _ (Kq_ (gr2 _ _ ?_))
             simp [Jx, Tryz.f36, hF]
             refine hR _ _ ?_
             exact ⟨by rw [Jdm hltn hbd]; simp, kq.trans (hkq.trans hk2')⟩
       ·
        refine Kf_ (by simp (disch := omega) [hlt]) ?_
        exact Kx_ (gx1 _ _ ⟨by simp [Fs, hF, hlt], JdM hN (by omega), JhR hM (by omega), hkq⟩)
      ·as_aux_lemma =>
       clear hF
       rintro fr st' ⟨hF, hN, hM, hkq⟩
       simp only [Fs] at hF
       refine Ks_ (Ka_ (gs := [none]) fun K1 gK => ?_)
       simp (disch := omega) []
       refine gK _ _ (Kq_ (gr _ _ ?_))
       simp [Jx, Tryz.f36, hF]
       refine hR _ _ ?_
       exact ⟨by rw [hN, hM]; rfl, kq.trans hkq⟩
     | false =>
      refine Kt_ (by simp (disch := omega) [hF]) (Ks_ (Ka_ (gs := [none]) fun K1 gK => ?_))
      simp (disch := omega) []
      refine gK _ _ (Kq_ (gr _ _ ?_))
      simp [Jx, Tryz.f36, hF]
      refine hR _ _ ?_
      exact ⟨rfl, kq⟩
  | false =>
   refine Kt_ (by simp (disch := omega) []) ?_
   have hkd : kind ≠ 2 := fun h => by rw [h] at hZ2; simp at hZ2
   obtain ⟨v, s2, hcw, rfl, hkw⟩ := Says.use (Jp6 gl q kind hk hkd text htx)
   cases B with
   | true =>
    cases N0 with
    | true =>
     cases J0 with
     | true =>
      refine Ks_ (Ks_ (Ka_ (gs := [none, none, none, none, some (some 52, false), some (some 52, false), some (some 52, false), some (some 52, false), none, none, some (some 58, false), some (some 58, false), some (some 58, false), some (some 58, false), none]) fun K1 gK => ?_))
      simp (disch := omega) [gT3, gT4, gT5, l3, l4, l5, ln, lk, eb', en', ej']
      refine gK _ _ (Kf_ (by simp (disch := omega) []) ?_)
      cases Z0 with
      | true =>
       cases E with
       | true =>
        refine Kk_ (Ks_ (Ka_ (gs := [none, none, none, none, some (some 67, true), some (some 67, true), some (some 67, true), none, none, some (some 72, false), some (some 72, false), some (some 72, false), some (some 72, false), some (some 76, true), some (some 76, true), some (some 76, true), some (some 76, true), some (some 76, true), some (some 76, true), some (some 72, false), none, none]) fun K1 gK => ?_))
        simp (disch := omega) [gT1, gT2, l1, l2, hsm, e0]
        refine gK _ _ (Kq_ (gr _ _ ?_))
        simp [Jx, Tryz.f36, hF]
        refine hR _ _ ?_
        exact ⟨rfl, kq⟩
       | false =>
        refine Kk_ (Ks_ (Ka_ (gs := [none, none, none, none, some (some 67, true), some (some 67, true), some (some 67, true), none, none, some (some 72, false), some (some 72, false), some (some 72, false), some (some 72, false), some (some 76, true), some (some 76, true), some (some 76, true), some (some 76, true), some (some 76, true), some (some 76, true), some (some 72, false), none, none]) fun K1 gK => ?_))
        simp (disch := omega) [gT1, gT2, l1, l2, hsm, e0, e0']
        refine gK _ _ (Kq_ (gr _ _ ?_))
        simp [Jx, Tryz.f36, hF]
        refine hR _ _ ?_
        exact ⟨rfl, kq⟩
      | false =>
       refine Kk_ (Ks_ (Ka_ (gs := [none, none, none, none, some (some 67, true), some (some 67, true), some (some 67, true), none, none, some (some 72, false), some (some 72, false), some (some 72, false), some (some 72, false), some (some 76, true), some (some 76, true), some (some 76, true), some (some 76, true), some (some 76, true), some (some 76, true), some (some 72, false), none, none]) fun K1 gK => ?_))
       simp (disch := omega) [hF, gT1, gT2, l1, l2, e0, e0', hcw, QR, Jt]
       refine gK _ _ (Kq_ (gr _ _ ?_))
       simp [Jx, Tryz.f36, hF]
       refine hR _ _ ?_
       exact ⟨rfl, kq.trans hkw⟩
     | false =>
      refine Ks_ (Ks_ (Ka_ (gs := [none, none, none, none, some (some 52, false), some (some 52, false), some (some 52, false), some (some 52, false), none, none, some (some 58, false), some (some 58, false), some (some 58, false), some (some 58, false), none]) fun K1 gK => ?_))
      simp (disch := omega) [gT3, gT4, gT5, l3, l4, l5, ln, lk, eb', en', ej']
      refine gK _ _ (Kt_ (by simp (disch := omega) []) (Ks_ (Ka_ (gs := [none]) fun K1 gK => ?_)))
      simp (disch := omega) []
      refine gK _ _ (Kq_ (gr _ _ ?_))
      simp [Jx, Tryz.f36, hF]
      refine hR _ _ ?_
      exact ⟨by cases Z0 <;> cases E <;> rfl, kq⟩
    | false =>
     refine Ks_ (Ks_ (Ka_ (gs := [none, none, none, none, some (some 52, false), some (some 52, false), some (some 52, false), some (some 52, false), none, none, some (some 58, false), some (some 58, false), some (some 58, false), some (some 58, false), none]) fun K1 gK => ?_))
     simp (disch := omega) [gT3, gT4, l3, l4, ln, eb', en']
     refine gK _ _ (Kt_ (by simp (disch := omega) []) (Ks_ (Ka_ (gs := [none]) fun K1 gK => ?_)))
     simp (disch := omega) []
     refine gK _ _ (Kq_ (gr _ _ ?_))
     simp [Jx, Tryz.f36, hF]
     refine hR _ _ ?_
     exact ⟨by cases Z0 <;> cases E <;> rfl, kq⟩
   | false =>
    refine Ks_ (Ks_ (Ka_ (gs := [none, none, none, none, some (some 52, false), some (some 52, false), some (some 52, false), some (some 52, false), none, none, some (some 58, false), some (some 58, false), some (some 58, false), some (some 58, false), none]) fun K1 gK => ?_))
    simp (disch := omega) [gT3, l3, eb']
    refine gK _ _ (Kt_ (by simp (disch := omega) []) (Ks_ (Ka_ (gs := [none]) fun K1 gK => ?_)))
    simp (disch := omega) []
    refine gK _ _ (Kq_ (gr _ _ ?_))
    simp [Jx, Tryz.f36, hF]
    refine hR _ _ ?_
    exact ⟨by cases Z0 <;> cases E <;> rfl, kq⟩
 | false =>
  refine Kt_ (by simp (disch := omega) []) (Ks_ (Ka_ (gs := [none, none, none, none, some (some 12, true), some (some 12, true), some (some 12, true), some (some 12, true), some (some 12, true), none, none, some (some 19, true), some (some 19, true), some (some 19, true), none, none, some (some 24, true), some (some 24, true), some (some 24, true), none, none, some (some 29, true), some (some 29, true), some (some 29, true), none, none, some (some 34, true), some (some 34, true), some (some 34, true), some (some 34, true), none, none, some (some 40, true), some (some 40, true), some (some 40, true), some (some 40, true), none, none]) fun K1 gK => ?_))
  refine OkG.cutK 10 (fun fr st' => Fs gl [(3, .ptr st.ctr 0), (18, .bool (A && C))] fr ∧ q = st') (by kernel_rfl) ?_ ?_
  ·as_aux_lemma =>
   intro Kc gKc
   simp only [List.take]
   cases A with
   | true =>
    simp (disch := omega) [hF, gT0, l0, lx, ea, ec]
    exact gKc _ _ ⟨by simp [Fs, hF], rfl⟩
   | false =>
    simp (disch := omega) [gT0, l0, ea]
    exact gKc _ _ ⟨by simp [Fs, hF], rfl⟩
  ·as_aux_lemma =>
   clear hF
   rintro fr st' ⟨hF, rfl⟩
   simp only [Fs] at hF
   simp only [List.drop]
   obtain ⟨B1, hB1⟩ : ∃ b, (A && C) = b := ⟨_, rfl⟩
   rw [hB1] at hF
   refine OkG.cutK 10 (fun fr st' => Fs gl [(3, .ptr st.ctr 0), (28, .bool (B1 && Z0 && E))] fr ∧ q = st') (by kernel_rfl) ?_ ?_
   ·as_aux_lemma =>
    intro Kc gKc
    simp only [List.take]
    cases B1 with
    | true =>
     cases Z0 with
     | true =>
      simp (disch := omega) [hF, gT1, gT2, l1, l2, hsm, e0]
      exact gKc _ _ ⟨by simp [Fs, hF], rfl⟩
     | false =>
      simp (disch := omega) [hF, gT1, l1, e0]
      exact gKc _ _ ⟨by simp [Fs, hF], rfl⟩
    | false =>
     simp (disch := omega) [hF]
     exact gKc _ _ ⟨by simp [Fs, hF], rfl⟩
   ·as_aux_lemma =>
    clear hF
    rintro fr st' ⟨hF, rfl⟩
    simp only [Fs] at hF
    simp only [List.drop]
    obtain ⟨B2, hB2⟩ : ∃ b, (B1 && Z0 && E) = b := ⟨_, rfl⟩
    rw [hB2] at hF
    have hfin : (A && (C && (B && (Z0 && (E && (N0 && J0)))))) = (B2 && (B && (N0 && J0))) := by rw [← hB2, ← hB1]; cases A <;> cases C <;> cases B <;> cases Z0 <;> cases E <;> rfl
    rw [cond_false, hfin] at hR
    cases B2 with
    | true =>
     cases B with
     | true =>
      cases N0 with
      | true =>
       simp (disch := omega) [hF, gT3, gT4, gT5, l3, l4, l5, ln, lk, eb, en, ej]
       refine gK _ _ (Kq_ (gr _ _ ?_))
       simp [Jx, Tryz.f36, hF]
       refine hR _ _ ?_
       exact ⟨rfl, kq⟩
      | false =>
       simp (disch := omega) [hF, gT3, gT4, l3, l4, ln, eb, en]
       refine gK _ _ (Kq_ (gr _ _ ?_))
       simp [Jx, Tryz.f36, hF]
       refine hR _ _ ?_
       exact ⟨rfl, kq⟩
     | false =>
      simp (disch := omega) [hF, gT3, l3, eb]
      refine gK _ _ (Kq_ (gr _ _ ?_))
      simp [Jx, Tryz.f36, hF]
      refine hR _ _ ?_
      exact ⟨rfl, kq⟩
    | false =>
     simp (disch := omega) [hF]
     refine gK _ _ (Kq_ (gr _ _ ?_))
     simp [Jx, Tryz.f36, hF]
     refine hR _ _ ?_
     exact ⟨rfl, kq⟩
theorem Jow (gl : Gl) (x : V) (l : List Fw) (hx : Row Fw.cells x l) {t : Tw} (hok : t.ok) : t.small → t.nodes ≤ 100000 → Jp5 gl x l t := by
 induction hok with
 | mk ref kind text base nv names kv kids hk hn hkv hks ih =>
  intro hs hnd
  cases hs with
  | mk _ _ _ _ _ _ _ _ ht hnl hnt hkl hks' =>
   have hz : ∀ t ∈ kids, Jad t.cells ≤ 1000 * t.nodes := fun t ht => Jir (hks t ht) (hks' t ht)
   have hkn : QC kids ≤ 100000 := by simp only [Tw.nodes] at hnd; omega
   refine fun st => Jl6 gl st x l hx ref kind text base nv names kv kids hk hn hkv hks (by omega) (by omega) (by omega) (Qi _ ?_) (fun t ht => Qi _ ?_) fun t ht => ih t ht (hks' t ht) ?_
   ·have := Jkl hkv hz; omega
   ·have := hz t ht
    have := Ja3 ht
    show Jad t.cells + 1 < _; omega
   ·have := Ja3 ht; omega
end Go.Vm
namespace Go.Vm
open Go Go.Proofs Go.Pa
attribute [local simp] OkS QL OkG Qu QB OkD Qd Qn JS Jh Jn vop Ju JG ev evs toV Jm Fr.dsTo Fr.glTo Fr.toNone Jj Jk Jl Qj QN Jc JL Jv V.undef J5 JV Qo Qg Qh Qk Qp Qq JU J8 Qr Ql JX Qs JC JF JE Jz JM Jo JW J2 JK Qb
def Tw.ref : Tw → Int
 | .mk ref _ _ _ _ _ _ _ => ref
def Tw.kind : Tw → Nat
 | .mk _ kind _ _ _ _ _ _ => kind
def Jox (s : Sw) : Bool := cond s.inc (!decide (s.why.n = 0) && (decide (s.code = 0) && (decide (s.out.n = 0) && decide (s.err.n = 0)))) (decide (s.why.n = 0) && (decide (0 ≤ s.code) && decide (s.code ≤ 255)))
def JcL (s : Sw) : Bool := (Jeu s.facts && JaH s.facts s.tree) && ((!decide (0 < s.tree.ref) && !(decide (s.tree.ref < 0) && !decide (s.tree.kind = 2))) && Jox s)
theorem SwBox.tree {st : St} {id : Nat} {s : Sw} (h : SwBox st id s) : JB Tryz.prog st 3 (.ptr id 1) = some (.int .i64 s.tree.ref) ∧ JB Tryz.prog st 5 (.ptr id 2) = some (.int .u8 (s.tree.kind : Int)) := by
 have hb := h.b
 obtain ⟨fv, facts, tree, inc, why, code, out, err⟩ := s
 cases tree
 exact ⟨Jb (off := 1) a3 z3 hb rfl, Jb (off := 2) a5 z5 hb rfl⟩
theorem Jlo (l : List Fw) : Jig l = Jeu l := by
 rw [Bool.eq_iff_iff, Jgk, Jbd]
variable [Memo] [NY]
set_option maxHeartbeats 8000000 in
set_option maxRecDepth 100000 in
theorem Jp7 (gl : Gl) {aL : List V} (hh : Hits gl aL) (st : St) (s : Sw) (hok : s.ok) (hs : s.small) :
  Says Tryz.prog gl 12 [.agg s.cells] st (fun v st' => v = .bool (JcL s) ∧ Keep st st') := by
 refine Qa (NY.no _ rfl rfl rfl _ _) Tryz.func12 rfl (by kernel_rfl) fun R hR K gr gn => ?_
 generalize hfr : Jy gl [.agg s.cells] = fr
 have hF : Fs gl [(0, .agg s.cells)] fr := by subst hfr; simp [Fs]
 simp only [Fs] at hF
 clear hfr
 have ho := Sw.ones hok
 have kq := Qx st s.cells 28
 have hb := Q6 st s.cells 28
 have hS := SwBox.new (st := st) (s := s)
 generalize Jau st s.cells 28 = q at kq hb hS
 obtain ⟨l0, l1, _, _, _, _, _, _⟩ := hS.ld
 obtain ⟨v, s1, hc1, rfl, hk1⟩ := Says.use (Jgg gl hh q s.fv s.facts hok.fv hok.facts hs.facts (by have := hs.len; omega))
 obtain ⟨v, s2, hc2, rfl, hk2⟩ := Says.use (Jov gl hh s.fv s.facts hok.fv hok.tree hs.tree s1)
 have hS1 := hS.keep hk1
 have hS2 := hS1.keep hk2
 obtain ⟨m0, m1, _, _, _, _, _, _⟩ := hS1.ld
 simp only [JcL, Jox] at hR
 obtain ⟨MP, hMP⟩ : ∃ b, Jeu s.facts = b := ⟨_, rfl⟩
 obtain ⟨MT, hMT⟩ : ∃ b, JaH s.facts s.tree = b := ⟨_, rfl⟩
 obtain ⟨G, hG⟩ : ∃ b, decide (0 < s.tree.ref) = b := ⟨_, rfl⟩
 obtain ⟨Ln, hLn⟩ : ∃ b, decide (s.tree.ref < 0) = b := ⟨_, rfl⟩
 obtain ⟨Z2, hZ2⟩ : ∃ b, decide (s.tree.kind = 2) = b := ⟨_, rfl⟩
 obtain ⟨W0, hW0⟩ : ∃ b, decide (s.why.n = 0) = b := ⟨_, rfl⟩
 obtain ⟨C0, hC0⟩ : ∃ b, decide (s.code = 0) = b := ⟨_, rfl⟩
 obtain ⟨C1, hC1⟩ : ∃ b, decide (0 ≤ s.code) = b := ⟨_, rfl⟩
 obtain ⟨C2, hC2⟩ : ∃ b, decide (s.code ≤ 255) = b := ⟨_, rfl⟩
 obtain ⟨O0, hO0⟩ : ∃ b, decide (s.out.n = 0) = b := ⟨_, rfl⟩
 obtain ⟨X0, hX0⟩ : ∃ b, decide (s.err.n = 0) = b := ⟨_, rfl⟩
 have ew : s.why.same (S.ofList []) = W0 := by rw [Qw, hW0]
 have eo : s.out.same (S.ofList []) = O0 := by rw [Qw, hO0]
 have ex : s.err.same (S.ofList []) = X0 := by rw [Qw, hX0]
 have eg : ∀ kk, Jd Tryz.prog kk .gtr 3 (.int .i64 s.tree.ref) (.int .i64 0) = some (.bool G) := fun kk => by rw [← hG]; exact JcV
 have el : ∀ kk, Jd Tryz.prog kk .lss 3 (.int .i64 s.tree.ref) (.int .i64 0) = some (.bool Ln) := fun kk => by rw [← hLn]; exact J1
 have ez : ∀ kk, Jd Tryz.prog kk .neq 5 (.int .u8 (s.tree.kind : Int)) (.int .u8 2) = some (.bool (!Z2)) := fun kk => by rw [← hZ2]; exact J8
 have ec0 : ∀ kk, Jd Tryz.prog kk .eql 3 (.int .i64 s.code) (.int .i64 0) = some (.bool C0) := fun kk => by rw [← hC0]; exact Qc
 have ec1 : ∀ kk, Jd Tryz.prog kk .geq 3 (.int .i64 s.code) (.int .i64 0) = some (.bool C1) := fun kk => by rw [← hC1]; exact JP
 have ec2 : ∀ kk, Jd Tryz.prog kk .leq 3 (.int .i64 s.code) (.int .i64 255) = some (.bool C2) := fun kk => by rw [← hC2]; exact JaD
 rw [hMP] at hc1 hR
 rw [hMT] at hc2 hR
 rw [hG, hLn, hZ2, hW0, hC0, hC1, hC2, hO0, hX0] at hR
 refine Ks_ (Ka_ (gs := [none, none]) fun K1 gK => ?_)
 simp (disch := omega) [hF, Ja, ho, hb]
 refine gK _ _ (Ks_ (Ks_ (Ka_ (gs := [none, none, none, none, none, some (some 7, false), some (some 7, false), some (some 7, false), some (some 7, false), some (some 7, false), some (some 7, false), none, none, some (some 15, false), some (some 15, false), some (some 15, false), some (some 15, false), none, none, some (some 21, false), some (some 21, false), some (some 21, false), some (some 21, false), some (some 21, false), some (some 26, true), some (some 26, true), some (some 26, true), some (some 26, true), some (some 21, false), none]) fun K1 gK => ?_)))
 refine OkG.cutK 12 (fun fr st' => Fs gl [(1, .ptr st.ctr 0), (14, .bool (!(MP && MT)))] fr ∧ SwBox st' st.ctr s ∧ Keep q st') (by kernel_rfl) ?_ ?_
 ·as_aux_lemma =>
  intro Kc gKc
  simp only [List.take]
  cases MP with
  | true =>
   simp (disch := omega) [hF, gS0, gS1, l0, m0, m1, hc1, hc2]
   exact gKc _ _ ⟨by simp [Fs, hF], hS2, hk1.trans hk2⟩
  | false =>
   simp (disch := omega) [hF, gS0, l0, hc1]
   exact gKc _ _ ⟨by simp [Fs, hF], hS1, hk1⟩
 ·as_aux_lemma =>
  clear hF
  rintro fr st' ⟨hF, hS3, hk3⟩
  simp only [Fs] at hF
  simp only [List.drop]
  obtain ⟨B1, hB1⟩ : ∃ b, (MP && MT) = b := ⟨_, rfl⟩
  rw [hB1] at hF hR
  obtain ⟨n0, n1, n2, n3, n4, n5, n6, n7⟩ := hS3.ld
  obtain ⟨t0, t1⟩ := hS3.tree
  have kq3 := kq.trans hk3
  obtain ⟨u3, hu3⟩ : ∃ u, u = st' := ⟨_, rfl⟩
  rw [← hu3] at n0 n1 n2 n3 n4 n5 n6 n7 t0 t1 kq3 ⊢
  refine OkG.cutK 18 (fun fr st' => Fs gl [(1, .ptr st.ctr 0), (32, .bool (!(B1 && (!G && !(Ln && !Z2)))))] fr ∧ u3 = st') (by kernel_rfl) ?_ ?_
  ·as_aux_lemma =>
   intro Kc gKc
   simp only [List.take]
   cases B1 with
   | true =>
    cases G with
    | true =>
     simp (disch := omega) [hF, gS1, gU0, eg, t0]
     exact gKc _ _ ⟨by simp [Fs, hF], rfl⟩
    | false =>
     cases Ln with
     | true =>
      simp (disch := omega) [hF, gS1, gU0, gU1, eg, el, ez, t0, t1]
      exact gKc _ _ ⟨by simp [Fs, hF], rfl⟩
     | false =>
      simp (disch := omega) [hF, gS1, gU0, eg, el, t0]
      exact gKc _ _ ⟨by simp [Fs, hF], rfl⟩
   | false =>
    simp (disch := omega) [hF]
    exact gKc _ _ ⟨by simp [Fs, hF], rfl⟩
  ·as_aux_lemma =>
   clear hF
   rintro fr st' ⟨hF, rfl⟩
   simp only [Fs] at hF
   simp only [List.drop]
   obtain ⟨B2, hB2⟩ : ∃ b, (B1 && (!G && !(Ln && !Z2))) = b := ⟨_, rfl⟩
   rw [hB2] at hF
   simp (disch := omega) []
   refine gK _ _ ?_
   rw [show ∀ E : Bool, (B1 && ((!G && !(Ln && !Z2)) && E)) = (B2 && E) from fun E => by rw [← hB2]; cases B1 <;> cases G <;> cases Ln <;> cases Z2 <;> rfl] at hR
   cases B2 with
   | true =>
    refine Kf_ (by simp (disch := omega) [hF]) ?_
    obtain ⟨I, hI⟩ : ∃ b, s.inc = b := ⟨_, rfl⟩
    rw [hI] at n2 hR
    refine Kk_ (Ks_ (Ks_ (Ka_ (gs := [none, none]) fun K1 gK => ?_)))
    simp (disch := omega) [hF, gS2, n2]
    refine gK _ _ ?_
    cases I with
    | true =>
     refine Kt_ (by simp (disch := omega) []) ?_
     cases W0 with
     | true =>
      refine Ks_ (Ka_ (gs := [none, none, none, none, some (some 38, true), some (some 38, true), some (some 38, true), none, none, some (some 43, true), some (some 43, true), some (some 43, true), none, none, some (some 48, true), some (some 48, true), some (some 48, true), none, none]) fun K1 gK => ?_)
      simp (disch := omega) [hF, gS3, ew, n3]
      refine gK _ _ (Kq_ (gr _ _ ?_))
      simp [Jx, Tryz.f12, hF]
      refine hR _ _ ?_
      exact ⟨rfl, kq3⟩
     | false =>
      cases C0 with
      | true =>
       cases O0 with
       | true =>
        refine Ks_ (Ka_ (gs := [none, none, none, none, some (some 38, true), some (some 38, true), some (some 38, true), none, none, some (some 43, true), some (some 43, true), some (some 43, true), none, none, some (some 48, true), some (some 48, true), some (some 48, true), none, none]) fun K1 gK => ?_)
        simp (disch := omega) [hF, gS3, gS4, gS5, gS6, ew, eo, ex, ec0, n3, n4, n5, n6]
        refine gK _ _ (Kq_ (gr _ _ ?_))
        simp [Jx, Tryz.f12, hF]
        refine hR _ _ ?_
        exact ⟨rfl, kq3⟩
       | false =>
        refine Ks_ (Ka_ (gs := [none, none, none, none, some (some 38, true), some (some 38, true), some (some 38, true), none, none, some (some 43, true), some (some 43, true), some (some 43, true), none, none, some (some 48, true), some (some 48, true), some (some 48, true), none, none]) fun K1 gK => ?_)
        simp (disch := omega) [hF, gS3, gS4, gS5, ew, eo, ec0, n3, n4, n5]
        refine gK _ _ (Kq_ (gr _ _ ?_))
        simp [Jx, Tryz.f12, hF]
        refine hR _ _ ?_
        exact ⟨rfl, kq3⟩
      | false =>
       refine Ks_ (Ka_ (gs := [none, none, none, none, some (some 38, true), some (some 38, true), some (some 38, true), none, none, some (some 43, true), some (some 43, true), some (some 43, true), none, none, some (some 48, true), some (some 48, true), some (some 48, true), none, none]) fun K1 gK => ?_)
       simp (disch := omega) [hF, gS3, gS4, ew, ec0, n3, n4]
       refine gK _ _ (Kq_ (gr _ _ ?_))
       simp [Jx, Tryz.f12, hF]
       refine hR _ _ ?_
       exact ⟨rfl, kq3⟩
    | false =>
     refine Kf_ (by simp (disch := omega) []) ?_
     cases W0 with
     | true =>
      cases C1 with
      | true =>
       refine Kk_ (Ks_ (Ka_ (gs := [none, none, none, none, some (some 56, true), some (some 56, true), some (some 56, true), none, none, some (some 61, true), some (some 61, true), some (some 61, true), none, none]) fun K1 gK => ?_))
       simp (disch := omega) [hF, gS3, gS4, ew, ec1, ec2, n3, n4]
       refine gK _ _ (Kq_ (gr _ _ ?_))
       simp [Jx, Tryz.f12, hF]
       refine hR _ _ ?_
       exact ⟨rfl, kq3⟩
      | false =>
       refine Kk_ (Ks_ (Ka_ (gs := [none, none, none, none, some (some 56, true), some (some 56, true), some (some 56, true), none, none, some (some 61, true), some (some 61, true), some (some 61, true), none, none]) fun K1 gK => ?_))
       simp (disch := omega) [hF, gS3, gS4, ew, ec1, n3, n4]
       refine gK _ _ (Kq_ (gr _ _ ?_))
       simp [Jx, Tryz.f12, hF]
       refine hR _ _ ?_
       exact ⟨rfl, kq3⟩
     | false =>
      refine Kk_ (Ks_ (Ka_ (gs := [none, none, none, none, some (some 56, true), some (some 56, true), some (some 56, true), none, none, some (some 61, true), some (some 61, true), some (some 61, true), none, none]) fun K1 gK => ?_))
      simp (disch := omega) [hF, gS3, ew, n3]
      refine gK _ _ (Kq_ (gr _ _ ?_))
      simp [Jx, Tryz.f12, hF]
      refine hR _ _ ?_
      exact ⟨rfl, kq3⟩
   | false =>
    refine Kt_ (by simp (disch := omega) [hF]) (Ks_ (Ka_ (gs := [none]) fun K1 gK => ?_))
    simp (disch := omega) []
    refine gK _ _ (Kq_ (gr _ _ ?_))
    simp [Jx, Tryz.f12, hF]
    refine hR _ _ ?_
    exact ⟨rfl, kq3⟩
set_option maxHeartbeats 8000000 in
set_option maxRecDepth 100000 in
theorem Jp8 (gl : Gl) (st : St) (s : Sw) (hok : s.ok) (hs : s.small) :
  Says Tryz.prog gl 13 [.agg s.cells] st (fun v st' => v = .bool (JcL s) ∧ Keep st st') := by
 refine Qa (NY.no _ rfl rfl rfl _ _) Tryz.func13 rfl (by kernel_rfl) fun R hR K gr gn => ?_
 generalize hfr : Jy gl [.agg s.cells] = fr
 have hF : Fs gl [(0, .agg s.cells)] fr := by subst hfr; simp [Fs]
 simp only [Fs] at hF
 clear hfr
 have ho := Sw.ones hok
 have kq := Qx st s.cells 28
 have hb := Q6 st s.cells 28
 have hS := SwBox.new (st := st) (s := s)
 generalize Jau st s.cells 28 = q at kq hb hS
 obtain ⟨l0, l1, _, _, _, _, _, _⟩ := hS.ld
 obtain ⟨v, s1, hc1, rfl, hk1⟩ := Says.use (Jgj gl q s.fv s.facts hok.fv hok.facts hs.facts (by have := hs.len; omega))
 obtain ⟨v, s2, hc2, rfl, hk2⟩ := Says.use (Jow gl s.fv s.facts hok.fv hok.tree hs.tree (by have := hs.nodes; omega) s1)
 have hS1 := hS.keep hk1
 have hS2 := hS1.keep hk2
 obtain ⟨m0, m1, _, _, _, _, _, _⟩ := hS1.ld
 simp only [JcL, Jox] at hR
 rw [Jlo] at hc1
 obtain ⟨MP, hMP⟩ : ∃ b, Jeu s.facts = b := ⟨_, rfl⟩
 obtain ⟨MT, hMT⟩ : ∃ b, JaH s.facts s.tree = b := ⟨_, rfl⟩
 obtain ⟨G, hG⟩ : ∃ b, decide (0 < s.tree.ref) = b := ⟨_, rfl⟩
 obtain ⟨Ln, hLn⟩ : ∃ b, decide (s.tree.ref < 0) = b := ⟨_, rfl⟩
 obtain ⟨Z2, hZ2⟩ : ∃ b, decide (s.tree.kind = 2) = b := ⟨_, rfl⟩
 obtain ⟨W0, hW0⟩ : ∃ b, decide (s.why.n = 0) = b := ⟨_, rfl⟩
 obtain ⟨C0, hC0⟩ : ∃ b, decide (s.code = 0) = b := ⟨_, rfl⟩
 obtain ⟨C1, hC1⟩ : ∃ b, decide (0 ≤ s.code) = b := ⟨_, rfl⟩
 obtain ⟨C2, hC2⟩ : ∃ b, decide (s.code ≤ 255) = b := ⟨_, rfl⟩
 obtain ⟨O0, hO0⟩ : ∃ b, decide (s.out.n = 0) = b := ⟨_, rfl⟩
 obtain ⟨X0, hX0⟩ : ∃ b, decide (s.err.n = 0) = b := ⟨_, rfl⟩
 have ew : s.why.same (S.ofList []) = W0 := by rw [Qw, hW0]
 have eo : s.out.same (S.ofList []) = O0 := by rw [Qw, hO0]
 have ex : s.err.same (S.ofList []) = X0 := by rw [Qw, hX0]
 have eg : ∀ kk, Jd Tryz.prog kk .gtr 3 (.int .i64 s.tree.ref) (.int .i64 0) = some (.bool G) := fun kk => by rw [← hG]; exact JcV
 have el : ∀ kk, Jd Tryz.prog kk .lss 3 (.int .i64 s.tree.ref) (.int .i64 0) = some (.bool Ln) := fun kk => by rw [← hLn]; exact J1
 have ez : ∀ kk, Jd Tryz.prog kk .neq 5 (.int .u8 (s.tree.kind : Int)) (.int .u8 2) = some (.bool (!Z2)) := fun kk => by rw [← hZ2]; exact J8
 have ec0 : ∀ kk, Jd Tryz.prog kk .eql 3 (.int .i64 s.code) (.int .i64 0) = some (.bool C0) := fun kk => by rw [← hC0]; exact Qc
 have ec1 : ∀ kk, Jd Tryz.prog kk .geq 3 (.int .i64 s.code) (.int .i64 0) = some (.bool C1) := fun kk => by rw [← hC1]; exact JP
 have ec2 : ∀ kk, Jd Tryz.prog kk .leq 3 (.int .i64 s.code) (.int .i64 255) = some (.bool C2) := fun kk => by rw [← hC2]; exact JaD
 rw [hMP] at hc1 hR
 rw [hMT] at hc2 hR
 rw [hG, hLn, hZ2, hW0, hC0, hC1, hC2, hO0, hX0] at hR
 refine Ks_ (Ka_ (gs := [none, none]) fun K1 gK => ?_)
 simp (disch := omega) [hF, Ja, ho, hb]
 refine gK _ _ (Ks_ (Ks_ (Ka_ (gs := [none, none, none, none, none, some (some 7, false), some (some 7, false), some (some 7, false), some (some 7, false), some (some 7, false), some (some 7, false), none, none, some (some 15, false), some (some 15, false), some (some 15, false), some (some 15, false), none, none, some (some 21, false), some (some 21, false), some (some 21, false), some (some 21, false), some (some 21, false), some (some 26, true), some (some 26, true), some (some 26, true), some (some 26, true), some (some 21, false), none]) fun K1 gK => ?_)))
 refine OkG.cutK 12 (fun fr st' => Fs gl [(1, .ptr st.ctr 0), (14, .bool (!(MP && MT)))] fr ∧ SwBox st' st.ctr s ∧ Keep q st') (by kernel_rfl) ?_ ?_
 ·as_aux_lemma =>
  intro Kc gKc
  simp only [List.take]
  cases MP with
  | true =>
   simp (disch := omega) [hF, gS0, gS1, l0, m0, m1, hc1, hc2]
   exact gKc _ _ ⟨by simp [Fs, hF], hS2, hk1.trans hk2⟩
  | false =>
   simp (disch := omega) [hF, gS0, l0, hc1]
   exact gKc _ _ ⟨by simp [Fs, hF], hS1, hk1⟩
 ·as_aux_lemma =>
  clear hF
  rintro fr st' ⟨hF, hS3, hk3⟩
  simp only [Fs] at hF
  simp only [List.drop]
  obtain ⟨B1, hB1⟩ : ∃ b, (MP && MT) = b := ⟨_, rfl⟩
  rw [hB1] at hF hR
  obtain ⟨n0, n1, n2, n3, n4, n5, n6, n7⟩ := hS3.ld
  obtain ⟨t0, t1⟩ := hS3.tree
  have kq3 := kq.trans hk3
  obtain ⟨u3, hu3⟩ : ∃ u, u = st' := ⟨_, rfl⟩
  rw [← hu3] at n0 n1 n2 n3 n4 n5 n6 n7 t0 t1 kq3 ⊢
  refine OkG.cutK 18 (fun fr st' => Fs gl [(1, .ptr st.ctr 0), (32, .bool (!(B1 && (!G && !(Ln && !Z2)))))] fr ∧ u3 = st') (by kernel_rfl) ?_ ?_
  ·as_aux_lemma =>
   intro Kc gKc
   simp only [List.take]
   cases B1 with
   | true =>
    cases G with
    | true =>
     simp (disch := omega) [hF, gS1, gU0, eg, t0]
     exact gKc _ _ ⟨by simp [Fs, hF], rfl⟩
    | false =>
     cases Ln with
     | true =>
      simp (disch := omega) [hF, gS1, gU0, gU1, eg, el, ez, t0, t1]
      exact gKc _ _ ⟨by simp [Fs, hF], rfl⟩
     | false =>
      simp (disch := omega) [hF, gS1, gU0, eg, el, t0]
      exact gKc _ _ ⟨by simp [Fs, hF], rfl⟩
   | false =>
    simp (disch := omega) [hF]
    exact gKc _ _ ⟨by simp [Fs, hF], rfl⟩
  ·as_aux_lemma =>
   clear hF
   rintro fr st' ⟨hF, rfl⟩
   simp only [Fs] at hF
   simp only [List.drop]
   obtain ⟨B2, hB2⟩ : ∃ b, (B1 && (!G && !(Ln && !Z2))) = b := ⟨_, rfl⟩
   rw [hB2] at hF
   simp (disch := omega) []
   refine gK _ _ ?_
   rw [show ∀ E : Bool, (B1 && ((!G && !(Ln && !Z2)) && E)) = (B2 && E) from fun E => by rw [← hB2]; cases B1 <;> cases G <;> cases Ln <;> cases Z2 <;> rfl] at hR
   cases B2 with
   | true =>
    refine Kf_ (by simp (disch := omega) [hF]) ?_
    obtain ⟨I, hI⟩ : ∃ b, s.inc = b := ⟨_, rfl⟩
    rw [hI] at n2 hR
    refine Kk_ (Ks_ (Ks_ (Ka_ (gs := [none, none]) fun K1 gK => ?_)))
    simp (disch := omega) [hF, gS2, n2]
    refine gK _ _ ?_
    cases I with
    | true =>
     refine Kt_ (by simp (disch := omega) []) ?_
     cases W0 with
     | true =>
      refine Ks_ (Ka_ (gs := [none, none, none, none, some (some 38, true), some (some 38, true), some (some 38, true), none, none, some (some 43, true), some (some 43, true), some (some 43, true), none, none, some (some 48, true), some (some 48, true), some (some 48, true), none, none]) fun K1 gK => ?_)
      simp (disch := omega) [hF, gS3, ew, n3]
      refine gK _ _ (Kq_ (gr _ _ ?_))
      simp [Jx, Tryz.f13, hF]
      refine hR _ _ ?_
      exact ⟨rfl, kq3⟩
     | false =>
      cases C0 with
      | true =>
       cases O0 with
       | true =>
        refine Ks_ (Ka_ (gs := [none, none, none, none, some (some 38, true), some (some 38, true), some (some 38, true), none, none, some (some 43, true), some (some 43, true), some (some 43, true), none, none, some (some 48, true), some (some 48, true), some (some 48, true), none, none]) fun K1 gK => ?_)
        simp (disch := omega) [hF, gS3, gS4, gS5, gS6, ew, eo, ex, ec0, n3, n4, n5, n6]
        refine gK _ _ (Kq_ (gr _ _ ?_))
        simp [Jx, Tryz.f13, hF]
        refine hR _ _ ?_
        exact ⟨rfl, kq3⟩
       | false =>
        refine Ks_ (Ka_ (gs := [none, none, none, none, some (some 38, true), some (some 38, true), some (some 38, true), none, none, some (some 43, true), some (some 43, true), some (some 43, true), none, none, some (some 48, true), some (some 48, true), some (some 48, true), none, none]) fun K1 gK => ?_)
        simp (disch := omega) [hF, gS3, gS4, gS5, ew, eo, ec0, n3, n4, n5]
        refine gK _ _ (Kq_ (gr _ _ ?_))
        simp [Jx, Tryz.f13, hF]
        refine hR _ _ ?_
        exact ⟨rfl, kq3⟩
      | false =>
       refine Ks_ (Ka_ (gs := [none, none, none, none, some (some 38, true), some (some 38, true), some (some 38, true), none, none, some (some 43, true), some (some 43, true), some (some 43, true), none, none, some (some 48, true), some (some 48, true), some (some 48, true), none, none]) fun K1 gK => ?_)
       simp (disch := omega) [hF, gS3, gS4, ew, ec0, n3, n4]
       refine gK _ _ (Kq_ (gr _ _ ?_))
       simp [Jx, Tryz.f13, hF]
       refine hR _ _ ?_
       exact ⟨rfl, kq3⟩
    | false =>
     refine Kf_ (by simp (disch := omega) []) ?_
     cases W0 with
     | true =>
      cases C1 with
      | true =>
       refine Kk_ (Ks_ (Ka_ (gs := [none, none, none, none, some (some 56, true), some (some 56, true), some (some 56, true), none, none, some (some 61, true), some (some 61, true), some (some 61, true), none, none]) fun K1 gK => ?_))
       simp (disch := omega) [hF, gS3, gS4, ew, ec1, ec2, n3, n4]
       refine gK _ _ (Kq_ (gr _ _ ?_))
       simp [Jx, Tryz.f13, hF]
       refine hR _ _ ?_
       exact ⟨rfl, kq3⟩
      | false =>
       refine Kk_ (Ks_ (Ka_ (gs := [none, none, none, none, some (some 56, true), some (some 56, true), some (some 56, true), none, none, some (some 61, true), some (some 61, true), some (some 61, true), none, none]) fun K1 gK => ?_))
       simp (disch := omega) [hF, gS3, gS4, ew, ec1, n3, n4]
       refine gK _ _ (Kq_ (gr _ _ ?_))
       simp [Jx, Tryz.f13, hF]
       refine hR _ _ ?_
       exact ⟨rfl, kq3⟩
     | false =>
      refine Kk_ (Ks_ (Ka_ (gs := [none, none, none, none, some (some 56, true), some (some 56, true), some (some 56, true), none, none, some (some 61, true), some (some 61, true), some (some 61, true), none, none]) fun K1 gK => ?_))
      simp (disch := omega) [hF, gS3, ew, n3]
      refine gK _ _ (Kq_ (gr _ _ ?_))
      simp [Jx, Tryz.f13, hF]
      refine hR _ _ ?_
      exact ⟨rfl, kq3⟩
   | false =>
    refine Kt_ (by simp (disch := omega) [hF]) (Ks_ (Ka_ (gs := [none]) fun K1 gK => ?_))
    simp (disch := omega) []
    refine gK _ _ (Kq_ (gr _ _ ?_))
    simp [Jx, Tryz.f13, hF]
    refine hR _ _ ?_
    exact ⟨rfl, kq3⟩
end Go.Vm
