/- One operation. -/
import Derived.Test.YtlmmgpmioaecnaaGreatDoorVmActs
namespace Go.Vm
open Go Go.RowKit
def Gives (_P : Program) (base : Nat) (g : Gh) (s : SS) (w : World) (run : Result Next) (v : V) (s' : SS) : Prop :=
 ∃ g' c w', (run = .ok (.value c) w' ∨ (run = .ok .skip w' ∧ c = Go.undef)) ∧ R g' v c ∧ Inv base g' s' w' ∧ Ext base g s w g' s' w'
theorem Gives.same {P : Program} {base : Nat} {g : Gh} {s : SS} {w : World} {run : Result Next} {v : V} {c : Value} (hi : Inv base g s w) (h : run = .ok (.value c) w) (hr : R g v c) : Gives P base g s w run v s :=
 ⟨g, c, w, .inl h, hr, hi, Ext.refl _ _ _ _⟩
theorem Gives.of {P : Program} {base : Nat} {g : Gh} {s : SS} {w : World} {x : Sem Value} {v : V} (hi : Inv base g s w) (h : ∃ c, x.run P w = .ok c w ∧ R g v c) :
  Gives P base g s w ((do pure (.value (← x)) : Sem Next).run P w) v s := by
 obtain ⟨c, h1, h2⟩ := h
 exact .same hi (by rw [Sem.run_bind, h1]; rfl) h2
theorem JbJ [Memo] {P : Program} {base : Nat} {g : Gh} {st : St} {w : World} (hi : Inv base g st.abs w) {N : Nat} {fr : Fr} {a : Act} (hf : FR g N fr a) (o : Oper) {v : V} (h : Jy P fr st o.op = some v) :
  Gives P base g st.abs w ((execOp a.eval o).run P w) v st.abs := by
 obtain ⟨dst, op, type, pos, after, guard⟩ := o
 simp only at h
 unfold Jy at h
 split at h
 ·exact .same hi rfl (Qh hf h)
 ·exact .same hi rfl (Qh hf h)
 ·
  rename_i c x y
  split at h
  ·rename_i hc
   have := Qh hf hc
   refine .same hi ?_ (Qh hf h)
   simp only [execOp, Sem.run_bind]
   cases hcc : a.eval c <;> rw [hcc] at this <;> cases this
   simp [asBool]
  ·rename_i hc
   have := Qh hf hc
   refine .same hi ?_ (Qh hf h)
   simp only [execOp, Sem.run_bind]
   cases hcc : a.eval c <;> rw [hcc] at this <;> cases this
   simp [asBool]
  ·simp at h
 ·
  rename_i x
  split at h
  ·rename_i id off hx
   simp only [Option.some.injEq] at h; subst h
   have hr := Qh hf hx
   refine .same hi ?_ hr
   simp only [execOp]
   cases hcc : a.eval x <;> rw [hcc] at hr <;> cases hr
   rfl
  ·rename_i cs hx
   simp only [Option.some.injEq] at h; subst h
   have hr := Qh hf hx
   refine .same hi ?_ hr
   simp only [execOp]
   cases hcc : a.eval x <;> rw [hcc] at hr <;> cases hr
   rfl
  ·rename_i f b c hx
   simp only [Option.some.injEq] at h; subst h
   have hr := Qh hf hx
   refine .same hi ?_ hr
   simp only [execOp]
   cases hcc : a.eval x <;> rw [hcc] at hr <;> cases hr
   rfl
  ·simp at h
 ·
  rename_i op t x y yt
  split at h
  ·rename_i u u' hu hu'
   exact .of hi (Jm5 x y h (Qh hf hu) (Qh hf hu') w)
  ·simp at h
 ·
  rename_i op t x
  split at h
  ·rename_i b hb
   have hr := Qh hf hb
   split at h
   ·simp only [Option.some.injEq] at h; subst h
    refine .same hi (c := .bool (!b)) ?_ (.bool _)
    simp only [execOp]
    cases hcc : a.eval x <;> rw [hcc] at hr <;> cases hr
    simp [Op.unary]
   ·simp at h
  ·rename_i u hu1 hu2
   exact .of hi (Jbm h (.cons _ _ _ _ (Qh hf hu2) .nil) w)
  ·simp at h
 ·
  split at h
  ·rename_i u hu
   exact .of hi (Jlw hi h (Qh hf hu))
  ·simp at h
 ·
  rename_i t x
  split at h
  ·simp at h
  ·rename_i u d hd1 hu hd2
   simp only [Option.some.injEq] at h; subst h
   refine .same hi ?_ (.iface _ _ _ (Qh hf hu))
   simp only [execOp, Sem.run_bind, Instr.makeInterface, run_underlying hd2, Result.andThen_ok]
   cases d <;> first | (exact absurd rfl (hd1 _)) | rfl
  ·simp at h
 ·
  rename_i f c a'
  split at h
  ·rename_i x y ha hc
   simp only [Option.some.injEq] at h; subst h
   have h1 := Jd8 hf ha
   have h2 := Jd8 hf hc
   refine .same hi (c := .func (.func f) ⟨c.toList.map a.eval⟩ ⟨a'.toList.map a.eval⟩) ?_ (.fn _ _ _ _ _ h1 h2)
   simp only [execOp, Instr.makeFunc, Sem.run_bind, Sem.run_pure, Result.andThen_ok]
   congr 3 <;> (apply Array.ext'; simp)
  ·simp at h
 ·
  split at h
  ·rename_i x lo hi' hx hlo hhi
   exact .of hi (Jjb h (Qh hf hx) (Jhe hf hlo) (Jhe hf hhi) w)
  ·simp at h
 ·
  split at h
  ·rename_i x lo hi' mx hx hlo hhi hmx
   exact .of hi (Jh9 h (Qh hf hx) (Jhe hf hlo) (Qh hf hhi) (Qh hf hmx) w)
  ·simp at h
 ·
  split at h
  ·rename_i x hx
   exact .of hi (Jhz h (Qh hf hx) _ w)
  ·simp at h
 ·
  split at h
  ·rename_i x hx
   exact .of hi (Jf7 h (Qh hf hx) w)
  ·simp at h
 ·
  split at h
  ·rename_i x hx
   exact .of hi (JjJ h (Qh hf hx) w)
  ·simp at h
 ·
  split at h
  ·rename_i x i hx hxi
   exact .of hi (Jf6 h (Qh hf hx) (Qh hf hxi) w)
  ·simp at h
 ·
  split at h
  ·rename_i x i hx hxi
   exact .of hi (JjI h (Qh hf hx) (Qh hf hxi) w)
  ·simp at h
 ·
  rename_i x i
  split at h
  ·rename_i vs hx
   have hr := Qh hf hx
   refine .of hi ?_
   cases hcc : a.eval x <;> rw [hcc] at hr <;> cases hr
   rename_i l hl
   obtain ⟨c, h1, h2⟩ := hl.get' h
   exact ⟨c, by simp [Instr.extract, h1], h2⟩
  ·simp at h
 ·
  rename_i t parts
  split at h
  ·rename_i ps hps
   refine .of hi ?_
   have h1 := Jez hf _ hps
   have e : (parts.map fun (i, x) => (i, a.eval x)) = ⟨parts.toList.map fun (i, x) => (i, a.eval x)⟩ := by apply Array.ext'; simp
   rw [e]
   exact JiI h h1 w
  ·simp at h
 ·
  split at h
  ·rename_i x hx
   exact .of hi (JgT hi h (Qh hf hx))
  ·simp at h
 ·
  split at h
  ·rename_i x k hx hk
   exact .of hi (JhA hi h (Qh hf hx) (Qh hf hk))
  ·simp at h
 ·
  rename_i b ts
  split at h
  ·rename_i x t tr hb ht
   split at h
   ·rename_i u hu
    have eb : b = #[x] := by apply Array.ext'; simpa using hb
    have et : ts[0]? = some t := by
     rw [← Array.getElem?_toList, ht]; rfl
    subst eb
    obtain ⟨c, h1, h2⟩ := Jna h (Qh hf hu) ts et type w
    refine .same hi ?_ h2
    simp [execOp, resolve, invoke, builtin, h1]
   ·simp at h
  ·simp at h
 ·
  rename_i b ts
  split at h
  ·rename_i x t tr hb ht
   have eb : b = #[x] := by apply Array.ext'; simpa using hb
   have et : ts[0]? = some t := by
    rw [← Array.getElem?_toList, ht]; rfl
   subst eb
   split at h
   ·rename_i e hx hu
    simp only [Option.some.injEq] at h; subst h
    have hr := Qh hf hx
    refine .same hi (c := .int .i64 0) ?_ (.int _ _)
    cases hcc : a.eval x <;> rw [hcc] at hr <;> cases hr
    simp [execOp, resolve, invoke, builtin, Builtin.cap_, et, run_underlying hu, hcc, goInt]
   ·rename_i id off n z c e hx hu
    simp only [Option.some.injEq] at h; subst h
    have hr := Qh hf hx
    cases hcc : a.eval x <;> rw [hcc] at hr <;> cases hr
    rename_i bb o bs co hb0 hc ho hk
    have hk : _ = c := hk
    subst hk
    refine .same hi ?_ (.int _ _)
    simp [execOp, resolve, invoke, builtin, Builtin.cap_, et, run_underlying hu, hcc, goInt]
   ·simp at h
  ·simp at h
 ·
  rename_i b ts
  split at h
  ·rename_i x hb
   have eb : b = #[x] := by apply Array.ext'; simpa using hb
   subst eb
   split at h
   ·rename_i hx
    simp only [Option.some.injEq] at h; subst h
    have hr := Qh hf hx
    refine .same hi (c := .pointer none) ?_ .nilp
    cases hcc : a.eval x <;> rw [hcc] at hr <;> cases hr
    have := Lib.run_unsafeSliceData_nil (P := P) w ts type 0 0
    simp [execOp, resolve, invoke, builtin, hcc, this]
   ·rename_i id off n z cap hx
    simp only [Option.some.injEq] at h; subst h
    have hr := Qh hf hx
    generalize hcc : a.eval x = cx at hr
    cases hr with
    | ms _ _ _ _ _ bb o bs co c hb0 hc ho hk =>
    have hco : co = o + off := by rcases ho with ho | ho <;> omega
    subst hco
    refine .same hi (c := .pointer (some ⟨bb, o + off, none⟩)) ?_ (.ptr _ _ _ _ _ hb0)
    have := Lib.run_unsafeSliceData_row (P := P) w ts type ⟨bb, o + off, none⟩ (n + 1) c (by omega)
    simp [execOp, resolve, invoke, builtin, hcc, this]
   ·simp at h
  ·simp at h
 ·
  rename_i b ts
  split at h
  ·rename_i vs hvs
   have hr := Jd8 hf hvs
   obtain ⟨c, h1, h2⟩ := Jbm h hr w
   refine .same hi ?_ h2
   have e : (b.map a.eval) = ⟨b.toList.map a.eval⟩ := by apply Array.ext'; simp
   simp only [execOp, resolve, invoke, builtin, Sem.run_bind, Sem.run_pure, Result.andThen_ok, e]
   have h1' : (Builtin.min_ ts type ⟨b.toList.map a.eval⟩).run P w = .ok c w := h1
   rw [h1']
   rfl
  ·simp at h
 ·
  rename_i b ts
  split at h
  ·rename_i vs hvs
   have hr := Jd8 hf hvs
   obtain ⟨c, h1, h2⟩ := Jbm h hr w
   refine .same hi ?_ h2
   have e : (b.map a.eval) = ⟨b.toList.map a.eval⟩ := by apply Array.ext'; simp
   simp only [execOp, resolve, invoke, builtin, Sem.run_bind, Sem.run_pure, Result.andThen_ok, e]
   have h1' : (Builtin.max_ ts type ⟨b.toList.map a.eval⟩).run P w = .ok c w := h1
   rw [h1']
   rfl
  ·simp at h
 ·simp at h
end Go.Vm
