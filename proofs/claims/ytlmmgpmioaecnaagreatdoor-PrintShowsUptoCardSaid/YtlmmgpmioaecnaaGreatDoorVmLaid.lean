/- What the row's condition on the program's variables gives the evaluator: its table of variables. -/
import Derived.Test.YtlmmgpmioaecnaaGreatDoorVmDraw5
import Derived.OpenShut
import Derived.ChangeArms
import Derived.WideShapes
import Derived.FnData
import Derived.MakeChecks
import Derived.LaidLaws
namespace Go.Vm
open Go Go.RowKit
def Jm8 (f : DataW Unit → Option (List V)) : List (DataW Unit) → Option (List V)
 | [] => some []
 | d :: r => match f d, Jm8 f r with
  | some a, some b => some (a ++ b)
  | _, _ => none
def gOf (P : Program) (E : Option TypeId) : Nat → TypeId → DataW Unit → Option (List V)
 | 0, _, _ => none
 | n + 1, t, d =>
  match P.underlying t with
  | some .bool => match d with
   | .lit (.bool b) => some [.bool b]
   | _ => none
  | some (.int _) => match d with
   | .lit (.int k i) => some [.int k i]
   | _ => none
  | some .string => match d with
   | .lit (.string l) => some [.str (S.ofList l)]
   | _ => none
  | some (.array m e) => match d with
   | .agg ds => if P.cellsOf t == m * P.cellsOf e then Jm8 (gOf P E n e) ds else none
   | _ => none
  | some (.struct fs) => match fs.toList, d with
   | [f], .agg [d] => if f.offset == 0 && P.cellsOf t == P.cellsOf f.type then gOf P E n f.type d else none
   | _, _ => none
  | some (.pointer e) => match d with
   | .ptr d => if P.cellsOf e == 0 then none else (gOf P none n e d).map fun vs => [.cp vs]
   | .nil => some [.nilp]
   | _ => none
  | some (.interface _) => match d, E with
   | .nil, _ => some [.nili]
   | .iface name (.ptr d), some tp => if name == "*errors.errorString" then (match P.underlying tp with
    | some (.pointer e) => if P.cellsOf e == 0 then none else (gOf P none n e d).map fun vs => [.iface tp (.cp vs)]
    | _ => none) else none
   | _, _ => none
  | _ => none
theorem Jkz {g : Gh} {f : DataW Unit → Option (List V)} {c : Nat} : ∀ (ds : List (DataW Unit)) (cs : List Value) (vs : List V), cs.length = ds.length * c →
  (∀ (i : Nat) d ws, ds[i]? = some d → f d = some ws → Rs g ws ((cs.drop (i * c)).take c)) → Jm8 f ds = some vs → Rs g vs cs
 | [], cs, vs, hl, _, h => by
  simp only [Jm8, Option.some.injEq] at h
  subst h
  have : cs = [] := List.length_eq_zero_iff.1 (by simpa using hl)
  subst this
  exact .nil
 | d :: r, cs, vs, hl, hp, h => by
  simp only [Jm8] at h
  split at h
  ·rename_i a b ha hb
   simp only [Option.some.injEq] at h
   subst h
   have h0 := hp 0 d a rfl ha
   simp only [Nat.zero_mul, List.drop_zero] at h0
   have hl' : cs.length = (r.length + 1) * c := by simpa using hl
   have hr := Jkz (c := c) r (cs.drop c) b (by rw [List.length_drop, hl', Nat.succ_mul]; omega) (fun i d' ws hd hw => by
    have := hp (i + 1) d' ws (by simpa using hd) hw
    rw [List.drop_drop]
    have e : c + i * c = (i + 1) * c := by rw [Nat.add_mul]; omega
    rw [e]
    exact this) hb
   have := h0.app hr
   rwa [List.take_append_drop] at this
  ·cases h
theorem Jdj {w : World} {base : Nat} {a : Addr} {n : Nat} {l : List Value} (h : w.cells? base a n = some l) (hn : n ≠ 0) : a.spot = none ∧ (worldGh w).has a.block a.off l := by
 simp only [World.cells?] at h
 split at h
 ·have hlen := mapM_some_length h
  rw [List.length_range] at hlen
  have hget : ∀ i, i < n → w.cell? (a.add i) = l[i]? := fun i hi => mapM_some_get h i i (by simp [hi])
  obtain ⟨b, o, s⟩ := a
  have hs : s = none := by
   have := hget 0 (by omega)
   rw [List.getElem?_eq_getElem (by omega)] at this
   simp only [Addr.add, ite_true, World.cell?] at this
   split at this
   ·split at this
    ·cases this
    ·rename_i hh; cases s <;> simp_all
   ·cases this
  subst hs
  refine ⟨rfl, fun i c hi => ?_⟩
  have hi' : i < l.length := (List.getElem?_eq_some_iff.1 hi).1
  have := hget i (by omega)
  rw [hi] at this
  simp only [worldGh]
  by_cases h0 : i = 0
  ·subst h0; simpa [Addr.add] using this
  ·simpa [Addr.add, h0] using this
 ·cases h
theorem JoS {P : Program} {W : World} {sp : Nat → Bool} : ∀ (n : Nat) (E : Option TypeId) (t : TypeId) (d : DataW Unit) (vs : List V) (fuel : Nat) (cs : List Value) (p : List MemPlace),
  (∀ tp, E = some tp → ∀ u, P.typeName? 3 u = some "*errors.errorString" → u = tp) →
  (∀ tp, E = some tp → ∀ u v, Value.iface u v ∈ cs → Value.okWide P W .any 0 u v) →
  gOf P E n t d = some vs → DataW.trod (fun _ => ()) P W 0 sp false fuel t cs = some (d, p) → Rs (worldGh W) vs cs := by
 intro n
 induction n with
 | zero => intro E t d vs fuel cs p _ _ h; simp [gOf] at h
 | succ n ih =>
  intro E t d vs fuel cs p hE hok h ht
  simp only [gOf] at h
  split at h
  ·rename_i hu
   obtain ⟨b, rfl, hx⟩ := DataW.trod_bool hu ht
   simp only [Prod.mk.injEq] at hx
   obtain ⟨rfl, rfl⟩ := hx
   simp only [Option.some.injEq] at h; subst h
   exact .cons _ _ _ _ (.bool _) .nil
  ·rename_i k hu
   obtain ⟨b, rfl, hx, _⟩ := DataW.trod_int hu ht
   simp only [Prod.mk.injEq] at hx
   obtain ⟨rfl, rfl⟩ := hx
   simp only [Option.some.injEq] at h; subst h
   exact .cons _ _ _ _ (.int _ _) .nil
  ·rename_i hu
   obtain ⟨b, rfl, hx, _⟩ := DataW.trod_string hu ht
   simp only [Prod.mk.injEq] at hx
   obtain ⟨rfl, rfl⟩ := hx
   simp only [Option.some.injEq] at h; subst h
   refine .cons _ _ _ _ ?_ .nil
   have := R.str (g := worldGh W) (S.ofList b.data.toList)
   rwa [S.toList_ofList] at this
  ·rename_i m e hu
   obtain ⟨xs, f, rfl, hx, hl, hm, hel⟩ := DataW.trod_array hu ht
   simp only [Prod.mk.injEq] at hx
   obtain ⟨rfl, rfl⟩ := hx
   simp only at h
   split at h
   ·rename_i hc
    have hc : P.cellsOf t = m * P.cellsOf e := by simpa using hc
    refine Jkz _ cs vs (by rw [hl, hc, List.length_map, hm]) ?_ h
    intro i d ws hd hw
    simp only [List.getElem?_map, Option.map_eq_some_iff] at hd
    obtain ⟨x, hx, rfl⟩ := hd
    have hi : i < m := by rw [← hm]; exact (List.getElem?_eq_some_iff.1 hx).1
    have h1 := hel i hi
    rw [hx] at h1
    refine ih E e x.1 ws f _ x.2 hE (fun tp he u v hv => hok tp he u v (List.mem_of_mem_drop (List.mem_of_mem_take hv))) hw ?_
    exact h1
   ·cases h
  ·rename_i fs hu
   obtain ⟨xs, f, rfl, hx, hl, hm, hel⟩ := DataW.trod_struct hu ht
   simp only [Prod.mk.injEq] at hx
   obtain ⟨rfl, rfl⟩ := hx
   split at h
   ·rename_i fld d' hfs hd'
    simp only [DataW.agg.injEq] at hd'
    have h1 : fs[0]? = some fld := by rw [← Array.getElem?_toList, hfs]; rfl
    have h2 := hel 0 fld h1
    split at h
    ·rename_i hc
     simp only [Bool.and_eq_true, beq_iff_eq] at hc
     match xs, hd' with
     | [x], hd' =>
      simp only [List.map_cons, List.map_nil, List.cons.injEq, and_true] at hd'
      subst hd'
      rw [hc.1, List.drop_zero, ← hc.2, ← hl, List.take_length] at h2
      exact ih E fld.type x.1 vs f cs x.2 hE hok h h2
     | [], hd' => simp at hd'
     | _ :: _ :: _, hd' => simp at hd'
    ·cases h
   ·cases h
  ·rename_i e hu
   rcases DataW.trod_pointer hu ht with ⟨rfl, hx⟩ | ⟨a, cs', y, m, rfl, rfl, hx, hc, hy⟩
   ·simp only [Prod.mk.injEq] at hx
    obtain ⟨rfl, rfl⟩ := hx
    simp only [Option.some.injEq] at h; subst h
    exact .cons _ _ _ _ .nilp .nil
   ·simp only [Prod.mk.injEq] at hx
    obtain ⟨rfl, rfl⟩ := hx
    simp only at h
    split at h
    ·cases h
    ·rename_i hne
     obtain ⟨ws, hw, rfl⟩ := Option.map_eq_some_iff.1 h
     obtain ⟨hs, hh⟩ := Jdj hc (by simpa using hne)
     obtain ⟨b, o, s⟩ := a
     simp only at hs
     subst hs
     exact .cons _ _ _ _ (.cp ws b o cs' (ih none e y.1 ws m cs' y.2 (fun tp he => by cases he) (fun tp he => by cases he) hw hy) hh) .nil
  ·rename_i ms hu
   split at h
   ·simp only [Option.some.injEq] at h; subst h
    cases fuel with
    | zero => simp [DataW.trod] at ht
    | succ f =>
     unfold DataW.trod at ht
     rw [hu] at ht
     split at ht <;> simp_all
     ·exact .cons _ _ _ _ .nili .nil
     ·split at ht <;> simp_all
   ·rename_i d' name d tp
    split at h
    ·rename_i hname
     have hname : name = "*errors.errorString" := by simpa using hname
     subst hname
     split at h
     ·rename_i e he
      split at h
      ·cases h
      ·rename_i hne
       obtain ⟨ws, hw, rfl⟩ := Option.map_eq_some_iff.1 h
       cases fuel with
       | zero => simp [DataW.trod] at ht
       | succ f =>
        unfold DataW.trod at ht
        rw [hu] at ht
        split at ht <;> try (first | (cases ht; done) | (simp_all; done))
        rename_i u v hux
        split at ht
        ·simp_all
        ·rename_i nm hnm
         obtain ⟨x, hx, hxe⟩ := Option.map_eq_some_iff.1 ht
         simp only [Prod.mk.injEq, DataW.iface.injEq] at hxe
         obtain ⟨⟨rfl, hxd⟩, rfl⟩ := hxe
         have := hE tp rfl u hnm
         subst this
         have hv := hok u rfl u v (by simp)
         obtain ⟨a, rfl⟩ := WideShapes.okWide_pointer he hv
         simp only [Value.cells] at hx
         rcases DataW.trod_pointer he hx with ⟨_, hx⟩ | ⟨a, cs', y, m, rfl, hcs, hx, hc, hy⟩
         ·rw [hx] at hxd; cases hxd
         ·rw [hx] at hxd
          simp only [DataW.ptr.injEq] at hxd
          subst hxd
          simp only [List.cons.injEq, Value.pointer.injEq, and_true] at hcs
          subst hcs
          obtain ⟨hs, hh⟩ := Jdj hc (by simpa using hne)
          obtain ⟨b, o, s⟩ := a
          simp only at hs
          subst hs
          exact .cons _ _ _ _ (.iface _ _ _ (.cp ws b o cs' (ih none e y.1 ws m cs' y.2 (fun tp he => by cases he) (fun tp he => by cases he) hw hy) hh)) .nil
        ·cases ht
     ·cases h
    ·cases h
   ·cases h
  ·cases h
def glOf (P : Program) (E : Option TypeId) : List (String × DataW Unit) → List String → Option Gl
 | [], _ => some .nil
 | (n, d) :: r, use =>
  match glOf P E r use with
  | none => none
  | some gl => if use.contains n then
    match P.globalNamed n with
    | some k => match P.globals[k]? with
     | some G => match gOf P E 16 G.type d with
      | some vs => some (gl.put k vs)
      | none => none
     | none => none
    | none => none
   else some gl
theorem Jec {P : Program} {W : World} {E : Option TypeId} (hE : ∀ tp, E = some tp → ∀ u, P.typeName? 3 u = some "*errors.errorString" → u = tp) {use : List String} :
  ∀ (laid : List (String × DataW Unit)) (ps : List MemPlace) (gl : Gl),
  (∀ b off, MemPlace.cell b off ∈ ps → ∀ u v, W.cell? ⟨b, off, none⟩ = some (.iface u v) → Value.okWide P W .any 0 u v) →
  DataW.LaidVars P W laid ps → glOf P E laid use = some gl → GlV (worldGh W) gl
 | [], ps, gl, _, _, h => by
  simp only [glOf, Option.some.injEq] at h; subst h
  exact .nil _
 | (n, d) :: r, ps, gl, hok, hl, h => by
  obtain ⟨k, t, cs, fuel, p, q, hk, ht, hv, hd, hr, rfl⟩ := hl
  simp only [glOf] at h
  split at h
  ·cases h
  ·rename_i gl0 hgl0
   have ih := Jec hE r q gl0 (fun b off hm => hok b off (List.mem_append_right _ hm)) hr hgl0
   split at h
   ·split at h
    ·rename_i k' hk'
     rw [hk] at hk'
     simp only [Option.some.injEq] at hk'
     subst hk'
     split at h
     ·rename_i G hG
      rw [hG] at ht
      simp only [Option.map_some, Option.some.injEq] at ht
      subst ht
      split at h
      ·rename_i vs hvs
       simp only [Option.some.injEq] at h; subst h
       refine ih.put (l := cs.toList) (JoS 16 E G.type d vs fuel cs.toList p hE (fun tp he u v hm => ?_) hvs hd) ?_
       ·obtain ⟨i, hi, hiv⟩ := List.mem_iff_getElem.1 hm
        have hc : W.cell? ⟨k, i, none⟩ = some (.iface u v) := by
         rw [World.var?_cell hk hv i]
         rw [← hiv]
         simp at hi ⊢
        refine hok k i (List.mem_append_left _ (List.mem_append_left _ ?_)) u v hc
        simp only [MemPlace.row, List.mem_map, List.mem_range]
        exact ⟨i, by simpa using hi, by simp⟩
       ·intro i c hi
        simp only [worldGh, Nat.zero_add]
        rw [World.var?_cell hk hv i]
        simpa using hi
      ·cases h
     ·cases h
    ·cases h
   ·simp only [Option.some.injEq] at h; subst h
    exact ih
theorem GlV_of_laidMet {P : Program} {W : World} {laid : List (String × DataW Unit)} {E : Option TypeId} {use : List String} {gl : Gl}
  (hE : ∀ tp, E = some tp → ∀ u, P.typeName? 3 u = some "*errors.errorString" → u = tp) (hg : glOf P E laid use = some gl) (h : laidMet P laid W) : GlV (worldGh W) gl := by
 obtain ⟨ps, h1, _, h2⟩ := h
 exact Jec hE laid ps gl (fun b off hm u v hc => (h2 b off hm).2 u v hc) h1 hg
end Go.Vm
