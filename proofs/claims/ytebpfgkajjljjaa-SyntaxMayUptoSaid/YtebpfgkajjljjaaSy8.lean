/- The law: May, Depth and Same are the document's. What is known: the set of the special bytes; that a wrong rune is none of them: runs in the kernel. -/
import Derived.Test.YtebpfgkajjljjaaSy7
import Derived.Test.YtebpfgkajjljjaaVmMemo
namespace Go.Vm
open Go Go.Proofs Go.Sy
attribute [local simp] Oks xOps vwanted isDefer vop kindOf vpure ev evs toV andThen inBlock atTo_some Fr.dsTo Fr.glTo Fr.toNone initFr_at initFr_ds initFr_gl veff traverse tupled vresult V.undef evOpt xDraw xStep

theorem all2_self {α : Type} {p : α → α → Bool} : ∀ {l : List α}, (∀ a ∈ l, p a a = true) → all2 p l l = true
  | [], _ => rfl
  | a :: l, h => by rw [all2, h a (by simp), all2_self (fun b hb => h b (by simp [hb]))]; rfl
theorem sameC_self (c : Cw) (hok : c.ok) : sameC c c = true := by
  induction hok with
  | mk k a nm wv ws kv kids hk hw hws hkv hks ih =>
    rw [show sameC (.mk k a nm wv ws kv kids) (.mk k a nm wv ws kv kids) = (decide (k = k) && nm.same nm && all2 sameW ws ws && sameCs kids kids) from rfl, sameCs_eq]
    rw [all2_self (fun w _ => by simp [sameW]), all2_self ih, S.same_eq]
    simp
theorem beqB (m : Bool) (kk : Bool) : vbin Try.prog kk .eql 4 (.bool m) (.bool m) = some (.bool true) := by cases m <;> cases kk <;> kernel_rfl
theorem beqI (n : Int) (kk : Bool) : vbin Try.prog kk .eql 3 (.int .i64 n) (.int .i64 n) = some (.bool true) := by rw [vbin_eql]; simp

def LawF (gl : Gl) (id1 : Nat) (fr : Fr) : Prop := fr.ds = [] ∧ fr.gl = gl ∧ Fr.at fr 2 = .ptr id1 0 ∧ Fr.at fr 3 = .ptr (id1 + 1) 0

variable [Memo] [NY]

set_option maxHeartbeats 2000000 in
set_option maxRecDepth 4000 in
theorem law_ok (gl : Gl) {aL : List V} (hh : Hits gl aL) (c d : Cw) (hc : c.ok) (hcs : c.small) (hd : d.ok) (hds' : d.small) (st : St) :
    ∃ v st', W Try.prog (.call gl 3 [.agg c.cells, .agg d.cells]) st = .call (.val v st') ∧ v = .bool true ∧ Keep st st' := by
  have hk4 : callable Try.prog 4 = true := by kernel_rfl
  have hk5 : callable Try.prog 5 = true := by kernel_rfl
  have hk6 : callable Try.prog 6 = true := by kernel_rfl
  have hk7 : callable Try.prog 7 = true := by kernel_rfl
  have hk8 : callable Try.prog 8 = true := by kernel_rfl
  have hk9 : callable Try.prog 9 = true := by kernel_rfl
  have hk10 : callable Try.prog 10 = true := by kernel_rfl
  refine call_ex (NY.no _ rfl rfl _ _) Try.func3 rfl (by kernel_rfl) ?_
  repeat refine Does.seq ?_
  refine Does.region ?_
  refine Oks.cont (Q := fun fr st' => st' = newCmd2 st c.cells d.cells ∧ LawF gl st.ctr fr) ?r0 ?t0
  case r0 => as_aux_lemma =>
    have o1 := Cw.ones hc
    have o2 := Cw.ones hd
    generalize c.cells = cc at o1
    generalize d.cells = dc at o2
    simp [valloc, V.cells, o1, o2, mkRef]
    exact ⟨rfl, by simp, by simp, by simp, by simp⟩
  case t0 => as_aux_lemma =>
  have hk1 := newCmd2_keep st c.cells d.cells
  have b1 := newCmd2_a st c.cells d.cells
  have b2 := newCmd2_b st c.cells d.cells
  have hct := newCmd2_ctr st c.cells d.cells
  rintro fr st' ⟨hst', hds, hg, h2, h3⟩
  rw [hst']
  clear hst'
  revert hk1 b1 b2 hct
  generalize newCmd2 st c.cells d.cells = st1
  generalize hid1 : st.ctr = id1 at h2 h3
  intro hk1 b1 b2 hct
  have ld1 : ∀ s, Keep st1 s → vload Try.prog s 25 (.ptr id1 0) = some (.agg c.cells) := fun s hk => vload25 (by rw [hk.box _ (by omega)]; exact b1)
  have ld2 : ∀ s, Keep st1 s → vload Try.prog s 25 (.ptr (id1 + 1) 0) = some (.agg d.cells) := fun s hk => vload25 (by rw [hk.box _ hct]; exact b2)
  obtain ⟨v, st2, hc1, ⟨n1, rfl⟩, hkw⟩ := weight_ok gl c hc hcs st1
  have hc1 := ihCall_W hc1
  obtain ⟨v, st3, hc2, ⟨n2, rfl⟩, hkw2⟩ := weight_ok gl d hd hds' st2
  have hc2 := ihCall_W hc2
  simp only [andThen]
  repeat refine Does.seq ?_
  refine Does.region ?_
  refine Oks.cont (Q := fun fr st' => Keep st1 st' ∧ LawF gl id1 fr ∧ ∃ b : Bool, Fr.at fr 12 = .bool b) ?r1 ?t1
  case r1 => as_aux_lemma =>
    have l1 := ld1 st1 (.refl _)
    have l2 := ld2 st2 hkw
    have e1 : ∀ kk, vbin Try.prog kk .geq 3 (.int .i64 n1) (.int .i64 3000) = some (.bool (decide (n1 ≥ 3000))) := fun kk => vbin_geq
    have e2 : ∀ kk, vbin Try.prog kk .geq 3 (.int .i64 n2) (.int .i64 3000) = some (.bool (decide (n2 ≥ 3000))) := fun kk => vbin_geq
    generalize decide (n1 ≥ 3000) = g1 at e1
    generalize decide (n2 ≥ 3000) = g2 at e2
    generalize c.cells = cc at l1 hc1
    generalize d.cells = dc at l2 hc2
    cases g1 with
    | true =>
      simp [h2, h3, l1, hg, vcall_callable hk4, hc1, e1]
      exact ⟨hkw, by simp [hds], by simp [hg], by simp [h2], by simp [h3]⟩
    | false =>
      simp [h2, h3, l1, hg, vcall_callable hk4, hc1, e1, l2, hc2, e2]
      exact ⟨hkw.trans hkw2, by simp [hds], by simp [hg], by simp [h2], by simp [h3]⟩
  case t1 =>
  clear hds hg h2 h3 hc1 hc2 hkw hkw2
  rintro fr st2 ⟨hkk, ⟨hds, hg, h2, h3⟩, b, h12⟩
  simp only [andThen]
  repeat refine Does.seq ?_
  cases b with
  | true =>
    refine Does.condT (by simp [h12]) ?_
    repeat refine Does.seq ?_
    refine Does.region ?_
    simp
    refine Does.ret ?_
    simp [hds]
    exact hk1.trans hkk
  | false =>
  refine Does.condF (by simp [h12]) ?_
  refine Does.skip ?_
  simp only [andThen]
  repeat refine Does.seq ?_
  have k0 : Keep st1 { ctr := st2.ctr + 27, box := st2.box } := hkk.tick 27
  obtain ⟨v, s1, q1, rfl, j1⟩ := wMayC_ok gl hh c hc hcs { ctr := st2.ctr + 27, box := st2.box }
  obtain ⟨v, s2, q2, rfl, j2⟩ := rMayC_ok gl c hc hcs s1
  obtain ⟨v, s3, q3, rfl, j3⟩ := wdep_ok gl c hc hcs s2
  obtain ⟨v, s4, q4, rfl, j4⟩ := rdep_ok gl c hc hcs s3
  obtain ⟨v, s5, q5, rfl, j5⟩ := wSameC_ok gl c hc hcs d hd hds' s4
  obtain ⟨v, s6, q6, rfl, j6⟩ := rSameC_ok gl c hc hcs d hd hds' s5
  obtain ⟨v, s7, q7, rfl, j7⟩ := wSameC_ok gl c hc hcs c hc hcs s6
  have q1 := ihCall_W q1
  have q2 := ihCall_W q2
  have q3 := ihCall_W q3
  have q4 := ihCall_W q4
  have q5 := ihCall_W q5
  have q6 := ihCall_W q6
  have q7 := ihCall_W q7
  rw [sameC_self c hc] at q7
  have k1 := k0.trans j1
  have k2 := k1.trans j2
  have k3 := k2.trans j3
  have k4 := k3.trans j4
  have k5 := k4.trans j5
  have k6 := k5.trans j6
  have a0 := ld1 _ k0
  have a1 := ld1 _ k1
  have a2 := ld1 _ k2
  have a3 := ld1 _ k3
  have a4 := ld1 _ k4
  have a5 := ld1 _ k5
  have a6 := ld1 _ k6
  have d0 := ld2 _ k0
  have d1 := ld2 _ k1
  have d2 := ld2 _ k2
  have d3 := ld2 _ k3
  have d4 := ld2 _ k4
  have d5 := ld2 _ k5
  have d6 := ld2 _ k6
  have va : veq 1000000000 (.agg c.cells) (.agg c.cells) = true := veq_self _ (Cw.vsz hcs)
  have vb : veq 1000000000 (.agg d.cells) (.agg d.cells) = true := veq_self _ (Cw.vsz hds')
  have ebm := beqB (mayT c)
  have ebi := beqI (depC c)
  have ebs := beqB (sameC c d)
  generalize mayT c = m at q1 q2 ebm
  generalize depC c = n at q3 q4 ebi
  generalize sameC c d = b at q5 q6 ebs
  have hfin : Keep st s7 := hk1.trans (k6.trans j7)
  clear j1 j2 j3 j4 j5 j6 j7 k0 k1 k2 k3 k4 k5 k6 ld1 ld2 b1 b2 hc hd hcs hds' hh
  generalize c.cells = cc at q1 q2 q3 q4 q5 q6 q7 a0 a1 a2 a3 a4 a5 a6 va
  generalize d.cells = dc at q5 q6 d0 d1 d2 d3 d4 d5 d6 vb
  refine Does.draw (b := [0, 1, 0, 7, 15, 31, 63, 127, 63, 511, 1023, 2047, 4095, 8191, 8191, 32767, 8191, 8191, 262143, 524287, 1048575, 2097151, 4194303, 4194303, 16777215, 33554431, 67108863]) (l := [0, 1, 2, 3, 4, 5, 6, 7, 8, 9, 10, 11, 12, 13, 14, 15, 16, 17, 18, 19, 20, 21, 22, 23, 24, 25, 26]) (by kernel_rfl) (by kernel_rfl) (by kernel_rfl) ?_
  simp [sameIn, h2, h3, hg, a0, a1, a2, a3, a4, a5, a6, d0, d1, d2, d3, d4, d5, d6, va, vb, vcall_callable hk5, vcall_callable hk6, vcall_callable hk7, vcall_callable hk8, vcall_callable hk9, vcall_callable hk10, q1, q2, q3, q4, q5, q6, q7, ebm, ebi, ebs]
  refine Does.ret ?_
  simp [hds]
  exact hfin
end Go.Vm

namespace Go.Vm
open Go Go.Proofs Go.Sy

def aLs : List V := (List.range 256).map fun i => .bool (specials.elem (UInt8.ofNat i))
abbrev setEnt : Ent := ⟨64, [.str specialS], .tup [.agg aLs, .bool true]⟩
abbrev badEnt : Ent := ⟨62, [.str specialS, .int .i32 65533], .int .i64 (-1)⟩
theorem sy_mixed : Try.prog.follows .mixedOrders = true := by kernel_rfl
theorem sy_free : (.nil : Gl).allB (fun l => l.all (freeV true 50)) = true := by kernel_rfl
theorem set_ent : EntOk Try.prog .nil setEnt :=
  entOk_of_run sy_mixed rules_nil sy_free (n := 1000000) (by kernel_rfl) (by kernel_rfl) (by kernel_rfl)
theorem bad_ent : EntOk Try.prog .nil badEnt :=
  entOk_of_run sy_mixed rules_nil sy_free (n := 1000000) (by kernel_rfl) (by kernel_rfl) (by kernel_rfl)
noncomputable abbrev syMemo : Memo := memoOf .nil [setEnt.rule, badEnt.rule]
theorem sy_rules : ∀ e ∈ [setEnt.rule, badEnt.rule], RuleOk Try.prog .nil e := rules_cons set_ent.rule (rules_cons bad_ent.rule rules_nil)
theorem sy_ny : @NY syMemo := by
  letI : Memo := syMemo
  refine ⟨fun f h64 h62 a st => ?_⟩
  show (mfF f [setEnt.rule, badEnt.rule]).run a st = none
  have e1 : Nat.beq 64 f = false := by
    rw [Bool.eq_false_iff]; intro h
    have := Nat.eq_of_beq_eq_true h; subst this; cases h64
  have e2 : Nat.beq 62 f = false := by
    rw [Bool.eq_false_iff]; intro h
    have := Nat.eq_of_beq_eq_true h; subst this; cases h62
  simp only [mfF, Ent.rule, e1, e2]
  rfl
theorem sy_hits : @Hits syMemo .nil aLs := by
  letI : Memo := syMemo
  refine ⟨by kernel_rfl, fun i hi => ?_, by kernel_rfl, fun st => ?_, fun st => ?_, fun c st hc => ?_⟩
  · simp [aLs, hi]
  · refine ihCall_W (W_of rfl (.step ⟨0, fun m _ => ?_⟩))
    rfl
  · refine ihCall_W (W_of rfl (.step ⟨0, fun m _ => ?_⟩))
    rfl
  · cases h : (Memo.look 62).run [V.str specialS, .int .i32 (c : Int)] st with
    | none => rfl
    | some p =>
      obtain ⟨e, he, hf, hr⟩ := mfF_hit 62 _ st p [setEnt.rule, badEnt.rule] h
      rcases List.mem_cons.1 he with rfl | he
      · cases hf
      · obtain rfl := List.mem_singleton.1 he
        have hr' : (match fveqs [V.str specialS, .int .i32 (c : Int)] [.str specialS, .int .i32 65533] with
          | true => some (badEnt.v, st)
          | false => none) = some p := hr
        split at hr'
        · rename_i ha
          have h1 := fveqs_eq ha
          injection h1 with _ h1
          injection h1 with h1 _
          injection h1 with _ h1
          omega
        · cases hr'
end Go.Vm
