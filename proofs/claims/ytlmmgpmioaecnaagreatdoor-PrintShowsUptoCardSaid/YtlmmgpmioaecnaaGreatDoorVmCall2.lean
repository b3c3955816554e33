/- How a function leaves; deferred calls; rounds; all together. -/
import Derived.Test.YtlmmgpmioaecnaaGreatDoorVmCall
namespace Go.Vm
open Go Go.RowKit
theorem Jfk : ∀ (args : List V) (i : Nat) (t : Tr V) (k : Nat), (JgB args i t).at k = if i ≤ k ∧ k < i + args.length then args.getD (k - i) .undef else t.at k
 | [], i, t, k => by
  rw [if_neg (by simp only [List.length_nil]; omega)]; rfl
 | v :: vs, i, t, k => by
  have e : JgB (v :: vs) i t = JgB vs (i + 1) (t.put i v) := rfl
  rw [e, Jfk vs (i + 1)]
  simp only [List.length_cons]
  by_cases h1 : i + 1 ≤ k ∧ k < i + 1 + vs.length
  ·rw [if_pos h1, if_pos (by omega), show k - i = (k - (i + 1)) + 1 from by omega]
   rfl
  ·rw [if_neg h1]
   have ep : (t.put i v).at k = if k = i then v else t.at k := by
    simp only [Tr.at, Tr.get_put]
    by_cases htd : k = i <;> simp [htd]
   rw [ep]
   by_cases h2 : k = i
   ·rw [if_pos h2, if_pos (by omega), show k - i = 0 from by omega]
    rfl
   ·rw [if_neg h2, if_neg (by omega)]
theorem JjO [Memo] {g : Gh} {gl : Gl} (hgl : GlR g gl) {N : Nat} {args : List V} {cargs : List Value} (hr : Rs g args cargs) (hn : args.length ≤ N) :
  FR g N (JC gl args) { tmps := (⟨cargs⟩ : Array Value) ++ Array.replicate (N - (⟨cargs⟩ : Array Value).size) Go.undef, defers := [] } := by
 have hl := hr.len
 refine ⟨by simp; omega, .nil, hgl, fun t => ?_⟩
 show R g ((JgB args 0 .nil).at t) _
 rw [Jfk, Array.getD_eq_getD_getElem?]
 by_cases h : t < args.length
 ·rw [if_pos ⟨Nat.zero_le _, by omega⟩]
  have hx : args[t]? = some args[t] := List.getElem?_eq_getElem h
  obtain ⟨c, h1, h2⟩ := hr.get' hx
  have e1 : args.getD (t - 0) .undef = args[t] := by simp [h]
  have e2 : ((⟨cargs⟩ : Array Value) ++ Array.replicate (N - (⟨cargs⟩ : Array Value).size) Go.undef)[t]? = some c := by
   rw [Array.getElem?_append_left (by simp; omega)]
   simpa using h1
  rw [e1, e2]
  exact h2
 ·rw [if_neg (by omega)]
  have e1 : (Tr.nil : Tr V).at t = .undef := rfl
  rw [e1]
  have e2 : (((⟨cargs⟩ : Array Value) ++ Array.replicate (N - (⟨cargs⟩ : Array Value).size) Go.undef)[t]?).getD Go.undef = Go.undef := by
   rw [Array.getElem?_append_right (by simp; omega), Array.getElem?_replicate]
   split <;> rfl
  rw [e2]
  exact R.undef g
theorem JkA {P : Program} {st : St} {t : TypeId} {x v : V} (h : JB P st t x = some v) {g : Gh} {c : Value} (hr : R g x c) : ∃ a, c = .pointer (some a) := by
 unfold JB at h
 split at h
 ·cases hr; exact ⟨_, rfl⟩
 ·cases hr; exact ⟨_, rfl⟩
 ·simp at h
theorem JlA {P : Program} {g : Gh} {w : World} (f : ResultVar → Sem Value) (q : ResultVar → Option V) (hq : ∀ x v, q x = some v → ∃ c, (f x).run P w = .ok c w ∧ R g v c) :
  ∀ (l : List ResultVar) (vs : List V), Jc q l = some vs → ∃ cs, (l.mapM f).run P w = .ok cs w ∧ Rs g vs cs
 | [], vs, h => by simp [Jc] at h; subst h; exact ⟨[], by simp, .nil⟩
 | x :: xs, vs, h => by
  obtain ⟨y, ys, h1, h2, rfl⟩ := JaT h
  obtain ⟨c, c1, c2⟩ := hq x y h1
  obtain ⟨cs, d1, d2⟩ := JlA f q hq xs ys h2
  exact ⟨c :: cs, by simp [List.mapM_cons, c1, d1], .cons _ _ _ _ c2 d2⟩
theorem JlB {g : Gh} {vs : List V} {cs : List Value} (h : Rs g vs cs) : R g (Jz vs) (if h : (⟨cs⟩ : Array Value).size = 1 then (⟨cs⟩ : Array Value)[0] else .tuple ⟨cs⟩) := by
 cases h with
 | nil => exact .tup _ _ .nil
 | cons v c vs cs hv hs =>
  cases hs with
  | nil => simpa [Jz] using hv
  | cons v' c' vs cs hv' hs => simpa [Jz] using R.tup _ _ (.cons _ _ _ _ hv (.cons _ _ _ _ hv' hs))
theorem JeB {P : Program} {base : Nat} {g : Gh} {st : St} {w : World} (hi : Inv base g st.abs w) {fr : Fr} {tmps : Array Value} (hf : ∀ t, R g (Fr.at fr t) (tmps.getD t Go.undef)) {fn : Func} {vs : List V}
  (h : Jc (Jw P fr st) fn.results.toList = some vs) : ∃ c, (results fn tmps).run P w = .ok c w ∧ R g (Jz vs) c := by
 obtain ⟨cs, h1, h2⟩ := JlA (P := P) (g := g) (w := w) (fun
  | .tmp t => pure (tmps.getD t Go.undef)
  | .cell p t => do loadVar t (← asAddr (tmps.getD p Go.undef))) (Jw P fr st) (fun x v hx => by
   cases x with
   | tmp t =>
    simp only [Jw, Option.some.injEq] at hx
    subst hx
    exact ⟨_, rfl, hf t⟩
   | cell p t =>
    simp only [Jw] at hx
    have hr := hf p
    obtain ⟨ad, ha⟩ := JkA hx hr
    obtain ⟨c, h1, h2⟩ := JgT hi hx hr
    rw [ha] at h1
    refine ⟨c, ?_, h2⟩
    simp only [ha, asAddr, Sem.run_bind, Sem.run_pure, Result.andThen_ok]
    simpa [Instr.loadAt, Instr.sureAddr] using h1) _ _ h
 refine ⟨_, ?_, JlB h2⟩
 simp only [results, Sem.run_bind]
 rw [Array.mapM_eq_mapM_toList]
 simp only [Sem.run_map]
 erw [h1]
 rfl
inductive MR (g : Gh) : Md → FrameMode → Prop
 | ret : MR g .ret .returning
 | pan (v : V) (c : Value) (h : R g v c) : MR g (.pan v) (.panicking [{ v := c, recovered := false }])
 | got (v : V) (c : Value) (h : R g v c) : MR g (.got v) (.panicking [{ v := c, recovered := true }])
theorem MR.mono {g g' : Gh} (hl : g.le g') {m : Md} {u : FrameMode} (h : MR g m u) : MR g' m u := by
 cases h with
 | ret => exact .ret
 | pan v c h => exact .pan _ _ (h.mono hl)
 | got v c h => exact .got _ _ (h.mono hl)
theorem MR.settle {g : Gh} {m : Md} {u : FrameMode} (h : MR g m u) : MR g (Jfc m) (settle u) := by
 cases h with
 | ret => exact .ret
 | pan v c h => exact .pan _ _ h
 | got v c h => exact .ret
theorem MR.notRun {g : Gh} {m : Md} {u : FrameMode} (h : MR g m u) : u ≠ .run := by
 cases h <;> simp
def CallPost (base : Nat) (g : Gh) (s : SS) (w : World) : ER → Ending → World → Prop
 | .val v st' => fun e w' => ∃ g' c, e = .returned c ∧ R g' v c ∧ Inv base g' st'.abs w' ∧ Ext base g s w g' st'.abs w'
 | .panic v st' => fun e w' => ∃ g' c, e = .panicked [{ v := c, recovered := false }] ∧ R g' v c ∧ Inv base g' st'.abs w' ∧ Ext base g s w g' st'.abs w'
 | .fail _ => fun _ _ => False
theorem CallPost.trans {base : Nat} {g g1 : Gh} {s s1 : SS} {w w1 : World} (hE : Ext base g s w g1 s1 w1) {r : ER} {e : Ending} {w' : World} (h : CallPost base g1 s1 w1 r e w') : CallPost base g s w r e w' := by
 cases r with
 | val v st' => obtain ⟨g', c, h1, h2, h3, h4⟩ := h; exact ⟨g', c, h1, h2, h3, hE.trans h4⟩
 | panic v st' => obtain ⟨g', c, h1, h2, h3, h4⟩ := h; exact ⟨g', c, h1, h2, h3, hE.trans h4⟩
 | fail w => exact h
def JdL [Memo] (P : Program) (base n : Nat) : Prop :=
 ∀ gl f args m st m' st', X P n (.dcall gl f args m) st = .dcall m' st' → ∀ g w cargs u, GlR g gl → Inv base g st.abs w → Rs g args cargs → MR g m u →
  CallsDIn (Fn none) 0 P f ⟨cargs⟩ u w fun e u' w' => ∃ g' v, e = .returned v ∧ MR g' m' u' ∧ Inv base g' st'.abs w' ∧ Ext base g st.abs w g' st'.abs w'
theorem Jam {P : Program} {fn : Func} {tmps : Array Value} {R R' : Ending → World → Prop} (hR : ∀ e w, R e w → R' e w) : ∀ (ds : List Deferred) (u : FrameMode) (w : World),
  LeavesInM (Fn none) 0 P fn tmps R ds u w → LeavesInM (Fn none) 0 P fn tmps R' ds u w
 | [], u, w, h => by
  cases u with
  | run => exact h.elim
  | returning => obtain ⟨v, h1, h2⟩ := h; exact ⟨v, h1, hR _ _ h2⟩
  | panicking ch => exact hR _ _ h
 | d :: ds, u, w, h => by
  refine ⟨h.1, ?_⟩
  rcases h.2 with ⟨r, w', h1, h2, h3⟩ | ⟨h0, fv, cap, f, args, h1, h2, h3, h4⟩
  ·exact .inl ⟨r, w', h1, h2, Jam hR ds u w' h3⟩
  ·refine .inr ⟨h0, fv, cap, f, args, h1, h2, h3, h4.mono fun e u' w' he => ?_⟩
   cases e with
   | returned v => exact Jam hR ds _ w' he
   | panicked ch => exact Jam hR ds _ w' he
   | outgrown => exact hR _ _ he
theorem Jef [Memo] {P : Program} {base n : Nat} (hd : JdL P base n) {fn : Func} {fr : Fr} {tmps : Array Value} : ∀ (ds : List Df) (m : Md) (st : St) (r : ER), Jao P (X P n) fn fr ds m st = .call r →
  ∀ (g : Gh) (w : World) (dds : List Deferred) (u : FrameMode), GlR g fr.gl → (∀ t, R g (Fr.at fr t) (tmps.getD t Go.undef)) → DRs g ds dds → MR g m u → Inv base g st.abs w →
  LeavesInM (Fn none) 0 P fn tmps (CallPost base g st.abs w r) dds u w
 | [], m, st, r, h, g, w, dds, u, hgl, hf, hds, hm, hi => by
  cases hds
  cases hm with
  | ret =>
   simp only [Jao] at h
   split at h
   ·rename_i vs hv
    simp only [Res.call.injEq] at h; subst h
    obtain ⟨c, h1, h2⟩ := JeB hi hf hv
    exact ⟨c, h1, g, c, rfl, h2, hi, Ext.refl _ _ _ _⟩
   ·simp at h
  | pan v c hv =>
   simp only [Jao, Res.call.injEq] at h; subst h
   exact ⟨g, c, rfl, hv, hi, Ext.refl _ _ _ _⟩
  | got v c hv => simp [Jao] at h
 | .mark id :: ds, m, st, r, h, g, w, dds, u, hgl, hf, hds, hm, hi => by
  cases hds with
  | cons _ d _ dds hdd hdds =>
  cases hdd with
  | mark _ b o bs hb =>
  simp only [Jao] at h
  split at h
  rotate_left
  ·simp at h
  rename_i hbx
  obtain ⟨b', o', bs', mo, h1, h2, h3⟩ := hi.box id _ hbx
  have e1 : (b', o', bs') = (b, o, bs) := by rw [h1] at hb; simpa using hb
  simp only [Prod.mk.injEq] at e1
  obtain ⟨rfl, rfl, rfl⟩ := e1
  cases h3
  obtain ⟨i1, x1⟩ := hi.putObj (x := .mark true) (m := .deferred none) hbx hb .shut
  refine ⟨hm.notRun, .inl ⟨b', _, rfl, run_takeDeferred h2, ?_⟩⟩
  exact Jam (fun e w' he => he.trans x1) _ _ _ (Jef hd ds m _ r h g _ dds u hgl hf hdds hm i1)
 | .call f args :: ds, m, st, r, h, g, w, dds, u, hgl, hf, hds, hm, hi => by
  cases hds with
  | cons _ d _ dds hdd hdds =>
  cases hdd with
  | call _ _ cap cargs ha =>
  simp only [Jao] at h
  split at h
  rotate_left
  ·simp at h
  rename_i hcb
  split at h
  ·rename_i m' st' hx
   have hc := hd fr.gl f args m st m' st' hx g w _ u hgl hi ha hm
   refine ⟨hm.notRun, .inr ⟨fun h => by simp [Fn, Fence.wide] at h, .func f, cap, f, ⟨cargs.toList ++ cap.toList⟩, rfl, ?_, fun _ _ => trivial, hc.mono ?_⟩⟩
   ·have e2 : cargs ++ cap = ⟨cargs.toList ++ cap.toList⟩ := by apply Array.ext'; simp
    simp only [invoke]
    rw [e2]
    exact JcO hcb _ _
   ·rintro e u' w' ⟨g', v, rfl, hm', i1, x1⟩
    exact Jam (fun e w' he => he.trans x1) _ _ _ (Jef hd ds (Jfc m') st' r h g' w' dds (settle u') (hgl.mono x1.le) (fun t => (hf t).mono x1.le) (hdds.mono x1.le) hm'.settle i1)
  ·simp at h
  ·simp at h
def Jdw [Memo] (P : Program) (base : Nat) : Prop := ∀ gl f args (st : St) v st', (Memo.look f).run args st = some (v, st') → ∀ g w cargs, GlR g gl → Inv base g st.abs w → Rs g args cargs → Calls P f ⟨cargs⟩ w (CallPost base g st.abs w (.val v st'))
theorem Jnd [Memo] {P : Program} {base n : Nat} (hmemo : Jdw P base) (hc : JcU P base n) (hd : JdL P base n) (gl : Gl) (f : Nat) (args : List V) (st : St) (r : ER) (h : X P (n + 1) (.call gl f args) st = .call r) :
  ∀ g w cargs, GlR g gl → Inv base g st.abs w → Rs g args cargs → Calls P f ⟨cargs⟩ w (CallPost base g st.abs w r) := by
 intro g w cargs hgl hi hr
 simp only [X, JdX] at h
 split at h
 ·rename_i v st' hv
  simp only [Res.call.injEq] at h
  subst h
  exact hmemo gl f args st v st' hv g w cargs hgl hi hr
 simp only [body] at h
 split at h
 ·simp at h
 rename_i fn hfn
 split at h
 ·simp at h
 rename_i c hb
 split at h
 ·simp at h
 rename_i hok
 obtain ⟨h1, h2⟩ := Jah hok
 have h1 := Nat.le_of_ble_eq_true h1
 have go : ∀ (e : AE) (fr' : Fr) (st' : St) (m : Md), X P n (.code none c (JC gl args)) st = .code e fr' st' → Jao P (X P n) fn fr' fr'.ds m st' = .call r → (e = .normal ∧ m = .ret ∨ e = .ret ∧ m = .ret ∨ ∃ v, e = .panic v ∧ m = .pan v) →
   Calls P f ⟨cargs⟩ w (CallPost base g st.abs w r) := by
  intro e fr' st' m hx hv hcase
  refine (callsIn_wide (n := 0)).1 (callsIn_of_wp_marks (F := Fn none) hfn hb trivial ?_)
  refine hc none c _ st e fr' st' hx fn.ntmps g _ w _ none .none h2 (JjO hgl hr h1) hi ?_
  have leave : ∀ g' a' w' u, FR g' fn.ntmps fr' a' → Inv base g' st'.abs w' → Ext base g st.abs w g' st'.abs w' → MR g' m u → LeavesInM (Fn none) 0 P fn a'.tmps (CallPost base g st.abs w r) a'.defers u w' := fun g' a' w' u f1 i1 x1 hm =>
   Jam (fun e w' he => he.trans x1) _ _ _ (Jef hd fr'.ds m st' r hv g' w' a'.defers u f1.gl f1.at_ f1.defers hm i1)
  rcases hcase with ⟨rfl, rfl⟩ | ⟨rfl, rfl⟩ | ⟨v, rfl, rfl⟩
  ·intro g' a' w' f1 i1 x1
   exact leave g' a' w' .returning f1 i1 x1 .ret
  ·intro g' a' w' f1 i1 x1
   exact leave g' a' w' .returning f1 i1 x1 .ret
  ·intro g' a' w' c' f1 r1 i1 x1
   exact leave g' a' w' (.panicking [{ v := c', recovered := false }]) f1 i1 x1 (.pan _ _ r1)
 split at h
 ·simp at h
 ·rename_i v fr' st' hx
  exact go _ _ _ _ hx h (.inr (.inr ⟨v, rfl, rfl⟩))
 ·rename_i e fr' st' hn1 hn2 hx
  refine go _ _ _ _ hx h ?_
  cases e with
  | normal => exact .inl ⟨rfl, rfl⟩
  | ret => exact .inr (.inl ⟨rfl, rfl⟩)
  | exit id => exact (hn1 id rfl).elim
  | panic v => exact (hn2 v rfl).elim
 ·simp at h
 ·simp at h
end Go.Vm
