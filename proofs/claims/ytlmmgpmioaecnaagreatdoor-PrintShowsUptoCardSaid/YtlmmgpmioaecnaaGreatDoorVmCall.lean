/- Code, one round of the evaluator; calls; deferred calls; rounds of a range over a function. -/
import Derived.Test.YtlmmgpmioaecnaaGreatDoorVmSound
namespace Go.Vm
open Go Go.RowKit
theorem JcO {P : Program} {f : Nat} (h : Jg P f = true) (args : Array Value) (w : World) : (callFunc f args).run P w = .ok (.enter f args) w := by
 unfold Jg at h
 split at h
 ·rename_i fn hfn
  obtain ⟨h1, h2⟩ := Jah h
  have h2 : ¬ fn.name = "runtime.NumGoroutine" := by simpa using h2
  cases hb : fn.body with
  | none => rw [hb] at h1; simp at h1
  | some c => simp [callFunc, hfn, h2, hb]
 ·simp at h
theorem JkN [Memo] {P : Program} {base n : Nat} (hdraw : Ji1 P base) (hc : JcU P base n) (hl : Ji0 P base n) (hcall : JbR P base (ihCall (X P n))) : JcU P base (n + 1) := by
 intro rd c fr st e fr' st' hx N g a w Q brd hrd hs hf hi hp
 simp only [X, JdX, body] at hx
 cases c with
 | skip =>
  simp only [Res.code.injEq] at hx
  obtain ⟨rfl, rfl, rfl⟩ := hx
  exact wpIn_skip (hp g a w hf hi (Ext.refl _ _ _ _))
 | exit id =>
  simp only [Res.code.injEq] at hx
  obtain ⟨rfl, rfl, rfl⟩ := hx
  exact wpIn_exit (hp g a w hf hi (Ext.refl _ _ _ _))
 | ret =>
  simp only [Res.code.injEq] at hx
  obtain ⟨rfl, rfl, rfl⟩ := hx
  exact wpIn_ret (hp g a w hf hi (Ext.refl _ _ _ _))
 | seq x y =>
  simp only [JV, Bool.and_eq_true] at hs
  simp only at hx
  refine wpIn_seq ?_
  cases hx1 : X P n (.code rd x fr) st with
  | code e1 fr1 st1 =>
   rw [hx1] at hx
   refine hc rd x fr st e1 fr1 st1 hx1 N g a w _ brd hrd hs.1 hf hi ?_
   cases e1 with
   | normal =>
    intro g1 a1 w1 f1 i1 x1
    exact hc rd y fr1 st1 e fr' st' hx N g1 a1 w1 Q brd (hrd.mono x1.le) hs.2 f1 i1 (hp.trans x1)
   | exit id =>
    simp only [Res.code.injEq] at hx
    obtain ⟨rfl, rfl, rfl⟩ := hx
    exact hp
   | ret =>
    simp only [Res.code.injEq] at hx
    obtain ⟨rfl, rfl, rfl⟩ := hx
    exact hp
   | panic v =>
    simp only [Res.code.injEq] at hx
    obtain ⟨rfl, rfl, rfl⟩ := hx
    exact hp
  | _ => rw [hx1] at hx; simp at hx
 | cond t x y =>
  simp only [JV, Bool.and_eq_true] at hs
  simp only at hx
  split at hx
  ·rename_i ht
   have hr := Qh hf ht
   cases hcc : a.eval t <;> rw [hcc] at hr <;> cases hr
   exact wpIn_cond_true hcc (hc rd x fr st e fr' st' hx N g a w Q brd hrd hs.1 hf hi hp)
  ·rename_i ht
   have hr := Qh hf ht
   cases hcc : a.eval t <;> rw [hcc] at hr <;> cases hr
   exact wpIn_cond_false hcc (hc rd y fr st e fr' st' hx N g a w Q brd hrd hs.2 hf hi hp)
  ·simp at hx
 | block id x =>
  simp only [JV] at hs
  simp only at hx
  refine wpIn_block ?_
  cases hx1 : X P n (.code rd x fr) st with
  | code e1 fr1 st1 =>
   rw [hx1] at hx
   refine hc rd x fr st e1 fr1 st1 hx1 N g a w _ brd hrd hs hf hi ?_
   cases e1 with
   | normal =>
    simp only [Res.code.injEq] at hx
    obtain ⟨rfl, rfl, rfl⟩ := hx
    exact hp
   | exit id' =>
    simp only at hx
    split at hx
    ·rename_i hid
     have hid := Nat.eq_of_beq_eq_true hid
     simp only [Res.code.injEq] at hx
     obtain ⟨rfl, rfl, rfl⟩ := hx
     intro g1 a1 w1 f1 i1 x1
     simp only [Exit.inBlock, hid, if_true]
     exact hp g1 a1 w1 f1 i1 x1
    ·rename_i hid
     have hne : ¬ id' = id := fun e => by subst e; rw [Nat.beq_refl] at hid; simp at hid
     simp only [Res.code.injEq] at hx
     obtain ⟨rfl, rfl, rfl⟩ := hx
     intro g1 a1 w1 f1 i1 x1
     simp only [Exit.inBlock, hne, if_false]
     exact hp g1 a1 w1 f1 i1 x1
   | ret =>
    simp only [Res.code.injEq] at hx
    obtain ⟨rfl, rfl, rfl⟩ := hx
    exact hp
   | panic v =>
    simp only [Res.code.injEq] at hx
    obtain ⟨rfl, rfl, rfl⟩ := hx
    exact hp
  | _ => rw [hx1] at hx; simp at hx
 | loop b => exact JiZ (JfC hc hl hx hrd (by simpa [JV] using hs) hf hi hp)
 | scope b =>
  simp only [JV] at hs
  simp only at hx
  refine Jdn (hc rd b fr st e fr' st' hx N g a w _ brd hrd hs hf hi ?_)
  cases e <;> exact hp
 | region id ops draw =>
  simp only [JV] at hs
  have hd : ∀ o ∈ ops.toList, Jck N o = true := List.all_eq_true.1 hs
  cases draw with
  | false =>
   simp only at hx
   refine wpIn_region (Jkj hcall hd (rd := rd) (by rintro rfl; cases hrd; rfl) ops.toList _ (JgC ops) (fun o ho => ho) hi hf ?_)
   split at hx
   ·rename_i fr1 st1 hr
    simp only [Res.code.injEq] at hx
    obtain ⟨rfl, rfl, rfl⟩ := hx
    rw [hr]; exact hp
   ·rename_i v fr1 st1 hr
    simp only [Res.code.injEq] at hx
    obtain ⟨rfl, rfl, rfl⟩ := hx
    rw [hr]
    exact hp
   ·simp at hx
  | true =>
   simp only at hx
   split at hx
   ·rename_i hpl
    split at hx
    ·rename_i d hdr
     simp only [Res.code.injEq] at hx
     obtain ⟨rfl, rfl, rfl⟩ := hx
     exact hdraw _ hcall id ops _ _ N g fr st a w d hpl hdr hd hf hi Q brd hp
    ·simp at hx
   ·simp at hx
 | rangeFunc gf ps x y =>
  simp only [JV, Bool.and_eq_true] at hs
  obtain ⟨⟨hs1, hs2⟩, hs3⟩ := hs
  have hps : ∀ p ∈ ps.toList, p < N := fun p hp => by
   have := List.all_eq_true.1 hs1 p hp
   simpa [Nat.blt_eq] using this
  simp only at hx
  split at hx
  rotate_left
  ·simp at hx
  rename_i f first captured hg
  split at hx
  rotate_left
  ·simp at hx
  rename_i id fr1 st1 hcb hen
  have hrg := Qh hf hg
  generalize hcc : a.eval gf = cg at hrg
  cases hrg with
  | fn _ _ _ l1 l2 h1 h2 =>
  refine wpIn_rangeFunc (fun fn _ => ?_)
  obtain ⟨l, mark, w1, g1, bs, e1, b1, f1, i1, x1⟩ := Ji2 (P := P) hi hf hrd hen hs2 hs3 hps fn
  have hargs : Rs g1 (first ++ [.yld id] ++ captured) (l1 ++ [.func (.yield l) #[] #[]] ++ l2) := ((h1.mono x1.le).app (.cons _ _ _ _ (.yld _ _ _ _ b1) .nil)).app (h2.mono x1.le)
  refine ⟨l, mark, w1, { target := .fn (.func f) ⟨l2⟩, args := ⟨l1⟩ ++ #[.func (.yield l) #[] #[]] }, w1, f, ⟨l1 ++ [.func (.yield l) #[] #[]] ++ l2⟩, w1, e1, ?_, fun _ _ => trivial, ?_, fun h => by simp [Fn, Fence.wide] at h, ?_⟩
  ·have e3 : Array.map a.eval #[Operand.const (Value.func (Fn.yield l) #[] #[])] = #[Value.func (Fn.yield l) #[] #[]] := by simp [Act.eval]
   simp only [resolve, hcc, Deferred.ofValue, Sem.run_pure, e3]
  ·have e2 : (⟨l1⟩ ++ #[Value.func (.yield l) #[] #[]] ++ ⟨l2⟩ : Array Value) = ⟨l1 ++ [.func (.yield l) #[] #[]] ++ l2⟩ := by apply Array.ext'; simp
   simp only [invoke]
   rw [e2]
   exact JcO hcb _ _
  ·refine JfS ?_
   have hco := hcall fr.gl (.f f) (first ++ [.yld id] ++ captured) st1
   split at hx
   ·rename_i v st2 hv
    rw [hv] at hco
    refine (hco g1 w1 _ (hf.gl.mono x1.le) i1 hargs).mono ?_
    rintro e2 w2 ⟨g2, c2, rfl, r2, i2, x2⟩
    obtain ⟨rfl, s, pend, t, ps', xa, ya, hbx, hns, rfl, hcase⟩ := Jh0 hx
    have b2 := x2.le.box _ _ b1
    obtain ⟨m, N', q1, q2, q3, _⟩ := i2.loop hbx b2
    obtain ⟨i3, x3⟩ := i2.putLoop hbx b2 q1 .exhausted pend
    have hend := run_endLoop (P := P) q1 (by rw [q2]; exact hns)
    have hsame : ({ m with state := .exhausted } : Loop) = { m with state := .exhausted, pending := pend } := by rw [← q3]
    rw [hsame, q3] at hend
    have xx := (x1.trans x2).trans x3
    have ff : FR g2 N fr' { a with defers := mark ++ a.defers } := f1.mono (x2.le)
    refine ⟨pend, _, hend, ?_⟩
    rcases hcase with ⟨rfl, rfl⟩ | ⟨rfl, rfl⟩ | ⟨z, rfl, rfl⟩
    ·exact hp g2 _ _ ff i3 xx
    ·exact wpIn_ret (hp g2 _ _ ff i3 xx)
    ·exact wpIn_exit (hp g2 _ _ ff i3 xx)
   ·rename_i v st2 hv
    simp only [Res.code.injEq] at hx
    obtain ⟨rfl, rfl, rfl⟩ := hx
    rw [hv] at hco
    refine (hco g1 w1 _ (hf.gl.mono x1.le) i1 hargs).mono ?_
    rintro e2 w2 ⟨g2, c2, rfl, r2, i2, x2⟩
    exact hp g2 _ _ _ (f1.mono x2.le) r2 i2 (x1.trans x2)
   ·simp at hx
 | label l => simp at hx
 | goto l => simp at hx
 | refuse s => simp at hx
end Go.Vm
