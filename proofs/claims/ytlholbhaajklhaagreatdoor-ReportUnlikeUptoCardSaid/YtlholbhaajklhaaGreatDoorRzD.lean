/- Regions that draw, their guards told ahead; in pieces. -/
import Derived.Test.YtlholbhaajklhaaGreatDoorRz4
import Derived.Test.YtlholbhaajklhaaGreatDoorRzC
namespace Go.Vm
open Go
def QL (P : Program) (ih : CallF) (b : List Nat) (c0 : Nat) : List (Option (Option Nat × Bool)) → List Oper → Nat → Drw → Option Drw
 | g :: gs, o :: r, i, d => match Qs d.fr g with
  | false => QL P ih b c0 gs r (i + 1) { fr := Fr.to d.fr o.dst .undef, st := d.st, snaps := (match Jq P o.op with | .e => (i, d.st) :: d.snaps | _ => d.snaps) }
  | true =>
   match Jq P o.op with
   | .p => match Jx P d.fr d.st o.op with
    | some v => QL P ih b c0 gs r (i + 1) { d with fr := Fr.to d.fr o.dst v }
    | none => none
   | .r => match d.snaps with
    | (_, s0) :: _ => match Jx P d.fr s0 o.op with
     | some v => match JQ P d.fr o.op v (b.getD i 0) d.snaps with
      | true => QL P ih b c0 gs r (i + 1) { d with fr := Fr.to d.fr o.dst v }
      | false => none
     | none => none
    | [] => none
   | .a => match JK P d.fr o.op with
    | some (cs, e, n) => match cs.all JZ with
     | true => QL P ih b c0 gs r (i + 1) { fr := Fr.to d.fr o.dst (Ql (c0 + i) n), st := { d.st with box := d.st.box.put (c0 + i) (.cells cs e true (some 0)) }, snaps := d.snaps }
     | false => none
    | none => none
   | .e => match J7 P ih d.fr d.st o.op with
    | .val v st' => QL P ih b c0 gs r (i + 1) { fr := Fr.to d.fr o.dst v, st := st', snaps := (i, st') :: d.snaps }
    | _ => none
 | _, _, _, d => some d
theorem Jhl {P : Program} {ih : CallF} {ops : Array Oper} {b : List Nat} {c0 : Nat} : ∀ (l : List Oper) (i : Nat) (d : Drw), QL P ih b c0 (l.map (JbR ops)) l i d = JL P ih ops b c0 l i d
 | [], i, d => rfl
 | o :: r, i, d => by
  have ih' := fun j d => Jhl (P := P) (ih := ih) (ops := ops) (b := b) (c0 := c0) r j d
  simp only [List.map_cons, QL, JL, JiM, ih']
  rfl
theorem Jo4 {P : Program} {ih : CallF} {b : List Nat} {c0 : Nat} (n : Nat) : ∀ (gs : List (Option (Option Nat × Bool))) (l : List Oper) (i : Nat) (d : Drw), gs.length = l.length → QL P ih b c0 gs l i d =
    match QL P ih b c0 (gs.take n) (l.take n) i d with
    | some d1 => QL P ih b c0 (gs.drop n) (l.drop n) (i + n) d1
    | none => none := by
  induction n with
  | zero => intro gs l i d _; simp [QL]
  | succ n ihn =>
    intro gs l i d h
    cases gs with
    | nil => cases l with
      | nil => simp [QL]
      | cons o r => simp at h
    | cons g gs => cases l with
     | nil => simp at h
     | cons o r =>
      have ih' := fun d => ihn gs r (i + 1) d (by simpa using h)
      rw [show i + 1 + n = i + (n + 1) by omega] at ih'
      simp only [List.take_succ_cons, List.drop_succ_cons, QL]
      cases Qs d.fr g with
      | false => exact ih' _
      | true =>
        simp only
        cases Jq P o.op with
        | p =>
          simp only
          cases Jx P d.fr d.st o.op with
          | none => rfl
          | some v => exact ih' _
        | r =>
          simp only
          cases d.snaps with
          | nil => rfl
          | cons s sn =>
            simp only
            cases Jx P d.fr s.2 o.op with
            | none => rfl
            | some v =>
              simp only
              cases JQ P d.fr o.op v (b.getD i 0) (s :: sn) with
              | true => exact ih' _
              | false => rfl
        | a =>
          simp only
          cases JK P d.fr o.op with
          | none => rfl
          | some v =>
            simp only
            cases v.1.all JZ with
            | true => exact ih' _
            | false => rfl
        | e =>
          simp only
          cases J7 P ih d.fr d.st o.op with
          | val v st' => exact ih' _
          | panic v st' => rfl
          | fail w => rfl
def OkS [Memo] (P : Program) (b : List Nat) (c0 : Nat) (gs : List (Option (Option Nat × Bool))) (l : List Oper) (i : Nat) (fr : Fr) (st : St) (snaps : List (Nat × St)) (K : Fr → St → List (Nat × St) → Prop) : Prop :=
 match QL P (ihCall (W P)) b c0 gs l i { fr := fr, st := st, snaps := snaps } with
 | some d => K d.fr d.st d.snaps
 | none => False
theorem Kd_ [Memo] {P : Program} {rd : Option Nat} {fr : Fr} {st : St} {Q : AE → Fr → St → Prop} {id : Nat} {ops : Array Oper} {k : List Code} {b : List Nat} {gs : List (Option (Option Nat × Bool))} (hb : Qy ops = b) (hl : JcN P ops b = List.range' 0 ops.toList.length) (hp : JaX P ops b (List.range' 0 ops.toList.length) = true) (hg : ops.toList.map (JbR ops) = gs)
  (h : ∀ K : Fr → St → Prop, (∀ fr' st', DoK P rd k fr' st' Q → K fr' st') →
   OkS P b st.ctr gs ops.toList 0 fr { ctr := st.ctr + ops.size, box := st.box } [(ops.size, { ctr := st.ctr + ops.size, box := st.box })] fun fr st _ => K fr st) : DoK P rd (.region id ops true :: k) fr st Q := by
 refine Kg_ hb hl hp fun K hK => ?_
 have h1 := h K hK
 unfold OkS at h1
 unfold OkD
 rw [← Jhl, hg]
 exact h1
theorem Kh_ [Memo] {P : Program} {rd : Option Nat} {fr : Fr} {st : St} {Q : AE → Fr → St → Prop} {id : Nat} {ops : Array Oper} {k : List Code} {b : List Nat} {gs : List (Option (Option Nat × Bool))} (h : ∀ K : Fr → St → Prop, (∀ fr' st', DoK P rd k fr' st' Q → K fr' st') →
   OkS P b st.ctr gs ops.toList 0 fr { ctr := st.ctr + ops.size, box := st.box } [(ops.size, { ctr := st.ctr + ops.size, box := st.box })] fun fr st _ => K fr st) (hb : Qy ops = b := by kernel_rfl) (hl : JcN P ops b = List.range' 0 ops.toList.length := by kernel_rfl) (hp : JaX P ops b (List.range' 0 ops.toList.length) = true := by kernel_rfl) (hg : ops.toList.map (JbR ops) = gs := by kernel_rfl) : DoK P rd (.region id ops true :: k) fr st Q := Kd_ hb hl hp hg h
end Go.Vm
namespace Go.Vm
open Go Go.Proofs Go.Pa
attribute [local simp] OkS QL OkG Qf Qs OkD J3 Qe JL Je Jk vop Jq Jx ev evs toV Jj Fr.dsTo Fr.glTo Fr.toNone Jg Jh Ji J7 QI Jc JF Jt V.undef JX JQ Qg J8 J9 Qa Qh Qi JT Qb Qj Qc JR Qk JE Jw Jy JD JG Ju JS JW JK Ql
theorem JiZ : ∀ (a b : List V), Jaj (a ++ b) + 1 = Jaj a + Jaj b
 | [], b => by simp only [List.nil_append, Jaj]; omega
 | x :: a, b => by
  have := JiZ a b
  simp only [List.cons_append, Jaj]; omega
theorem Jhm : ∀ {kids : List Tw}, (∀ t ∈ kids, Jaj t.cells ≤ 1000 * t.nodes) → Jaj (kids.flatMap Tw.cells) ≤ 1000 * QC kids + 1
 | [], _ => Nat.le_of_ble_eq_true rfl
 | t :: r, h => by
  have h1 := h t (by simp)
  have h2 := Jhm (kids := r) fun u hu => h u (by simp [hu])
  have h3 := JiZ t.cells (r.flatMap Tw.cells)
  rw [List.flatMap_cons]
  simp only [QC]
  omega
theorem Jj6 {kv : V} {kids : List Tw} (h : Row Tw.cells kv kids) (hs : ∀ t ∈ kids, Jaj t.cells ≤ 1000 * t.nodes) : vsz kv ≤ 1000 * QC kids + 2 := by
 cases h with
 | nils => exact Nat.le_trans (Nat.le_of_ble_eq_true rfl) (Nat.le_add_left 2 _)
 | sl l ex => have := Jhm hs; show Jaj (kids.flatMap Tw.cells) + 1 ≤ _; omega
theorem Jgb {t : Tw} (hok : t.ok) : t.small → Jaj t.cells ≤ 1000 * t.nodes := by
 induction hok with
 | mk ref kind text base nv names kv kids hk hn hkv hks ih =>
  intro hs
  cases hs with
  | mk _ _ _ _ _ _ _ _ ht hnl hnt hkl hks' =>
   have h1 := Jcn hn
   have h2 := Jj6 hkv fun t ht => ih t ht (hks' t ht)
   simp only [Tw.cells, Jaj, vsz, Tw.nodes]
   omega
variable [Memo] [NY]
end Go.Vm
namespace Go.Vm
open Go Go.Proofs Go.Pa
attribute [local simp] OkS QL OkG Qf Qs OkD J3 Qe JL Je Jk vop Jq Jx ev evs toV Jj Fr.dsTo Fr.glTo Fr.toNone Jg Jh Ji J7 QI Jc JF Jt V.undef JX JQ Qg J8 J9 Qa Qh Qi JT Qb Qj Qc JR Qk JE Jw Jy JD JG Ju JS JW JK Ql
def Tw.ref : Tw → Int
 | .mk ref _ _ _ _ _ _ _ => ref
def Tw.kind : Tw → Nat
 | .mk _ kind _ _ _ _ _ _ => kind
def Jn7 (s : Sw) : Bool := cond s.inc (!decide (s.why.n = 0) && (decide (s.code = 0) && (decide (s.out.n = 0) && decide (s.err.n = 0)))) (decide (s.why.n = 0) && (decide (0 ≤ s.code) && decide (s.code ≤ 255)))
def Jdr (s : Sw) : Bool := (Jfn s.facts && Jae s.facts s.tree) && ((!decide (0 < s.tree.ref) && !(decide (s.tree.ref < 0) && !decide (s.tree.kind = 2))) && Jn7 s)
theorem SwBox.tree {st : St} {id : Nat} {s : Sw} (h : SwBox st id s) : Jz Tryz.prog st 3 (.ptr id 1) = some (.int .i64 s.tree.ref) ∧ Jz Tryz.prog st 5 (.ptr id 2) = some (.int .u8 (s.tree.kind : Int)) := by
 have hb := h.b
 obtain ⟨fv, facts, tree, inc, why, code, out, err⟩ := s
 cases tree
 exact ⟨Jb (off := 1) a3 z3 hb rfl, Jb (off := 2) a5 z5 hb rfl⟩
variable [Memo] [NY]
set_option maxHeartbeats 8000000 in
set_option maxRecDepth 100000 in
theorem Jgc (gl : Gl) {aL : List V} (hh : Hits gl aL) (st : St) (s : Sw) (hok : s.ok) (hs : s.small) :
  Says Tryz.prog gl 12 [.agg s.cells] st (fun v st' => v = .bool (Jdr s) ∧ Keep st st') := by
 refine QD (NY.no _ rfl rfl rfl _ _) Tryz.func12 rfl (by kernel_rfl) fun R hR K gr gn => ?_
 generalize hfr : JH gl [.agg s.cells] = fr
 have hF : Fs gl [(0, .agg s.cells)] fr := by subst hfr; simp [Fs]
 simp only [Fs] at hF
 clear hfr
 have ho := Sw.ones hok
 have kq := Qz st s.cells 28
 have hb := Jaa st s.cells 28
 have hS := SwBox.new (st := st) (s := s)
 generalize Jao st s.cells 28 = q at kq hb hS
 obtain ⟨l0, l1, _, _, _, _, _, _⟩ := hS.ld
 obtain ⟨v, s1, hc1, rfl, hk1⟩ := Says.use (JgE gl hh q s.fv s.facts hok.fv hok.facts hs.facts (by have := hs.len; omega))
 obtain ⟨v, s2, hc2, rfl, hk2⟩ := Says.use (JnS gl hh s.fv s.facts hok.fv hok.tree hs.tree s1)
 have hS1 := hS.keep hk1
 have hS2 := hS1.keep hk2
 obtain ⟨m0, m1, _, _, _, _, _, _⟩ := hS1.ld
 simp only [Jdr, Jn7] at hR
 obtain ⟨MP, hMP⟩ : ∃ b, Jfn s.facts = b := ⟨_, rfl⟩
 obtain ⟨MT, hMT⟩ : ∃ b, Jae s.facts s.tree = b := ⟨_, rfl⟩
 obtain ⟨G, hG⟩ : ∃ b, decide (0 < s.tree.ref) = b := ⟨_, rfl⟩
 obtain ⟨Ln, hLn⟩ : ∃ b, decide (s.tree.ref < 0) = b := ⟨_, rfl⟩
 obtain ⟨Z2, hZ2⟩ : ∃ b, decide (s.tree.kind = 2) = b := ⟨_, rfl⟩
 obtain ⟨W0, hW0⟩ : ∃ b, decide (s.why.n = 0) = b := ⟨_, rfl⟩
 obtain ⟨C0, hC0⟩ : ∃ b, decide (s.code = 0) = b := ⟨_, rfl⟩
 obtain ⟨C1, hC1⟩ : ∃ b, decide (0 ≤ s.code) = b := ⟨_, rfl⟩
 obtain ⟨C2, hC2⟩ : ∃ b, decide (s.code ≤ 255) = b := ⟨_, rfl⟩
 obtain ⟨O0, hO0⟩ : ∃ b, decide (s.out.n = 0) = b := ⟨_, rfl⟩
 obtain ⟨X0, hX0⟩ : ∃ b, decide (s.err.n = 0) = b := ⟨_, rfl⟩
 have ew : s.why.same (S.ofList []) = W0 := by rw [Q4, hW0]
 have eo : s.out.same (S.ofList []) = O0 := by rw [Q4, hO0]
 have ex : s.err.same (S.ofList []) = X0 := by rw [Q4, hX0]
 have eg : ∀ kk, Jf Tryz.prog kk .gtr 3 (.int .i64 s.tree.ref) (.int .i64 0) = some (.bool G) := fun kk => by rw [← hG]; exact JcU
 have el : ∀ kk, Jf Tryz.prog kk .lss 3 (.int .i64 s.tree.ref) (.int .i64 0) = some (.bool Ln) := fun kk => by rw [← hLn]; exact QF
 have ez : ∀ kk, Jf Tryz.prog kk .neq 5 (.int .u8 (s.tree.kind : Int)) (.int .u8 2) = some (.bool (!Z2)) := fun kk => by rw [← hZ2]; exact Qb
 have ec0 : ∀ kk, Jf Tryz.prog kk .eql 3 (.int .i64 s.code) (.int .i64 0) = some (.bool C0) := fun kk => by rw [← hC0]; exact QP
 have ec1 : ∀ kk, Jf Tryz.prog kk .geq 3 (.int .i64 s.code) (.int .i64 0) = some (.bool C1) := fun kk => by rw [← hC1]; exact Qr
 have ec2 : ∀ kk, Jf Tryz.prog kk .leq 3 (.int .i64 s.code) (.int .i64 255) = some (.bool C2) := fun kk => by rw [← hC2]; exact JaU
 rw [hMP] at hc1 hR
 rw [hMT] at hc2 hR
 rw [hG, hLn, hZ2, hW0, hC0, hC1, hC2, hO0, hX0] at hR
 refine Ks_ (Ka_ (gs := [none, none]) fun K1 gK => ?_)
 simp (disch := omega) [hF, Ja, ho, hb]
 refine gK _ _ (Ks_ (Ks_ (Ka_ (gs := [none, none, none, none, none, some (some 7, false), some (some 7, false), some (some 7, false), some (some 7, false), some (some 7, false), some (some 7, false), none, none, some (some 15, false), some (some 15, false), some (some 15, false), some (some 15, false), none, none, some (some 21, false), some (some 21, false), some (some 21, false), some (some 21, false), some (some 21, false), some (some 26, true), some (some 26, true), some (some 26, true), some (some 26, true), some (some 21, false), none]) fun K1 gK => ?_)))
 refine OkG.cutK 12 (fun fr st' => Fs gl [(1, .ptr st.ctr 0), (14, .bool (!(MP && MT)))] fr ∧ SwBox st' st.ctr s ∧ Keep q st') (by kernel_rfl) ?_ ?_
 ·as_aux_lemma =>
  intro Kc gKc
  simp only [List.take]
  cases MP with
  | true =>
   simp (disch := omega) [hF, gS0, gS1, l0, m0, m1, hc1, hc2]
   exact gKc _ _ ⟨by simp [Fs, hF], hS2, hk1.trans hk2⟩
  | false =>
   simp (disch := omega) [hF, gS0, l0, hc1]
   exact gKc _ _ ⟨by simp [Fs, hF], hS1, hk1⟩
 ·as_aux_lemma =>
  clear hF
  rintro fr st' ⟨hF, hS3, hk3⟩
  simp only [Fs] at hF
  simp only [List.drop]
  obtain ⟨B1, hB1⟩ : ∃ b, (MP && MT) = b := ⟨_, rfl⟩
  rw [hB1] at hF hR
  obtain ⟨n0, n1, n2, n3, n4, n5, n6, n7⟩ := hS3.ld
  obtain ⟨t0, t1⟩ := hS3.tree
  have kq3 := kq.trans hk3
  obtain ⟨u3, hu3⟩ : ∃ u, u = st' := ⟨_, rfl⟩
  rw [← hu3] at n0 n1 n2 n3 n4 n5 n6 n7 t0 t1 kq3 ⊢
  refine OkG.cutK 18 (fun fr st' => Fs gl [(1, .ptr st.ctr 0), (32, .bool (!(B1 && (!G && !(Ln && !Z2)))))] fr ∧ u3 = st') (by kernel_rfl) ?_ ?_
  ·as_aux_lemma =>
   intro Kc gKc
   simp only [List.take]
   cases B1 with
   | true =>
    cases G with
    | true =>
     simp (disch := omega) [hF, gS1, gU0, eg, t0]
     exact gKc _ _ ⟨by simp [Fs, hF], rfl⟩
    | false =>
     cases Ln with
     | true =>
      simp (disch := omega) [hF, gS1, gU0, gU1, eg, el, ez, t0, t1]
      exact gKc _ _ ⟨by simp [Fs, hF], rfl⟩
     | false =>
      simp (disch := omega) [hF, gS1, gU0, eg, el, t0]
      exact gKc _ _ ⟨by simp [Fs, hF], rfl⟩
   | false =>
    simp (disch := omega) [hF]
    exact gKc _ _ ⟨by simp [Fs, hF], rfl⟩
  ·as_aux_lemma =>
   clear hF
   rintro fr st' ⟨hF, rfl⟩
   simp only [Fs] at hF
   simp only [List.drop]
   obtain ⟨B2, hB2⟩ : ∃ b, (B1 && (!G && !(Ln && !Z2))) = b := ⟨_, rfl⟩
   rw [hB2] at hF
   simp (disch := omega) []
   refine gK _ _ ?_
   rw [show ∀ E : Bool, (B1 && ((!G && !(Ln && !Z2)) && E)) = (B2 && E) from fun E => by rw [← hB2]; cases B1 <;> cases G <;> cases Ln <;> cases Z2 <;> rfl] at hR
   cases B2 with
   | true =>
    refine Kf_ (by simp (disch := omega) [hF]) ?_
    obtain ⟨I, hI⟩ : ∃ b, s.inc = b := ⟨_, rfl⟩
    rw [hI] at n2 hR
    refine Kk_ (Ks_ (Ks_ (Ka_ (gs := [none, none]) fun K1 gK => ?_)))
    simp (disch := omega) [hF, gS2, n2]
    refine gK _ _ ?_
    cases I with
    | true =>
     refine Kt_ (by simp (disch := omega) []) ?_
     cases W0 with
     | true =>
      refine Ks_ (Ka_ (gs := [none, none, none, none, some (some 38, true), some (some 38, true), some (some 38, true), none, none, some (some 43, true), some (some 43, true), some (some 43, true), none, none, some (some 48, true), some (some 48, true), some (some 48, true), none, none]) fun K1 gK => ?_)
      simp (disch := omega) [hF, gS3, ew, n3]
      refine gK _ _ (Kq_ (gr _ _ ?_))
      simp [JM, Tryz.f12, hF]
      refine hR _ _ ?_
      exact ⟨rfl, kq3⟩
     | false =>
      cases C0 with
      | true =>
       cases O0 with
       | true =>
        refine Ks_ (Ka_ (gs := [none, none, none, none, some (some 38, true), some (some 38, true), some (some 38, true), none, none, some (some 43, true), some (some 43, true), some (some 43, true), none, none, some (some 48, true), some (some 48, true), some (some 48, true), none, none]) fun K1 gK => ?_)
        simp (disch := omega) [hF, gS3, gS4, gS5, gS6, ew, eo, ex, ec0, n3, n4, n5, n6]
        refine gK _ _ (Kq_ (gr _ _ ?_))
        simp [JM, Tryz.f12, hF]
        refine hR _ _ ?_
        exact ⟨rfl, kq3⟩
       | false =>
        refine Ks_ (Ka_ (gs := [none, none, none, none, some (some 38, true), some (some 38, true), some (some 38, true), none, none, some (some 43, true), some (some 43, true), some (some 43, true), none, none, some (some 48, true), some (some 48, true), some (some 48, true), none, none]) fun K1 gK => ?_)
        simp (disch := omega) [hF, gS3, gS4, gS5, ew, eo, ec0, n3, n4, n5]
        refine gK _ _ (Kq_ (gr _ _ ?_))
        simp [JM, Tryz.f12, hF]
        refine hR _ _ ?_
        exact ⟨rfl, kq3⟩
      | false =>
       refine Ks_ (Ka_ (gs := [none, none, none, none, some (some 38, true), some (some 38, true), some (some 38, true), none, none, some (some 43, true), some (some 43, true), some (some 43, true), none, none, some (some 48, true), some (some 48, true), some (some 48, true), none, none]) fun K1 gK => ?_)
       simp (disch := omega) [hF, gS3, gS4, ew, ec0, n3, n4]
       refine gK _ _ (Kq_ (gr _ _ ?_))
       simp [JM, Tryz.f12, hF]
       refine hR _ _ ?_
       exact ⟨rfl, kq3⟩
    | false =>
     refine Kf_ (by simp (disch := omega) []) ?_
     cases W0 with
     | true =>
      cases C1 with
      | true =>
       refine Kk_ (Ks_ (Ka_ (gs := [none, none, none, none, some (some 56, true), some (some 56, true), some (some 56, true), none, none, some (some 61, true), some (some 61, true), some (some 61, true), none, none]) fun K1 gK => ?_))
       simp (disch := omega) [hF, gS3, gS4, ew, ec1, ec2, n3, n4]
       refine gK _ _ (Kq_ (gr _ _ ?_))
       simp [JM, Tryz.f12, hF]
       refine hR _ _ ?_
       exact ⟨rfl, kq3⟩
      | false =>
       refine Kk_ (Ks_ (Ka_ (gs := [none, none, none, none, some (some 56, true), some (some 56, true), some (some 56, true), none, none, some (some 61, true), some (some 61, true), some (some 61, true), none, none]) fun K1 gK => ?_))
       simp (disch := omega) [hF, gS3, gS4, ew, ec1, n3, n4]
       refine gK _ _ (Kq_ (gr _ _ ?_))
       simp [JM, Tryz.f12, hF]
       refine hR _ _ ?_
       exact ⟨rfl, kq3⟩
     | false =>
      refine Kk_ (Ks_ (Ka_ (gs := [none, none, none, none, some (some 56, true), some (some 56, true), some (some 56, true), none, none, some (some 61, true), some (some 61, true), some (some 61, true), none, none]) fun K1 gK => ?_))
      simp (disch := omega) [hF, gS3, ew, n3]
      refine gK _ _ (Kq_ (gr _ _ ?_))
      simp [JM, Tryz.f12, hF]
      refine hR _ _ ?_
      exact ⟨rfl, kq3⟩
   | false =>
    refine Kt_ (by simp (disch := omega) [hF]) (Ks_ (Ka_ (gs := [none]) fun K1 gK => ?_))
    simp (disch := omega) []
    refine gK _ _ (Kq_ (gr _ _ ?_))
    simp [JM, Tryz.f12, hF]
    refine hR _ _ ?_
    exact ⟨rfl, kq3⟩
end Go.Vm
