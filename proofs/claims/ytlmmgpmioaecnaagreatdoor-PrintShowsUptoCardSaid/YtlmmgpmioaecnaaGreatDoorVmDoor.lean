/- The library's own doors. -/
import Derived.Test.YtlmmgpmioaecnaaGreatDoorVmOp
namespace Go.Vm
open Go Go.RowKit
theorem Jlj (fn : Func) (h : fn.name = "sync/atomic.LoadUint32") : Extern.find fn = some (Extern.Atomic.loadT (.int .u32)) := by
 unfold Extern.find; rw [h]; rfl
theorem Jjw (fn : Func) (h : fn.name = "sync/atomic.StoreUint32") : Extern.find fn = some Extern.Atomic.storeT := by
 unfold Extern.find; rw [h]; rfl
theorem JmM (fn : Func) (h : fn.name = "sync/atomic.CompareAndSwapInt32") : Extern.find fn = some (Extern.Atomic.casT (.int .i32)) := by
 unfold Extern.find; rw [h]; rfl
theorem JmN (fn : Func) (h : fn.name = "sync/atomic.AddInt32") : Extern.find fn = some (Extern.Atomic.update (Op.intArith .add) .i32 true) := by
 unfold Extern.find; rw [h]; rfl
theorem Jix (fn : Func) (h : fn.name = "internal/abi.NoEscape") : Extern.find fn = some Extern.AbiNoEscape.same := by
 unfold Extern.find; rw [h]; rfl
theorem Jhq (fn : Func) (h : fn.name = "internal/race.Acquire") : Extern.find fn = some (Extern.Race.marked .acquire) := by
 unfold Extern.find; rw [h]; rfl
theorem Jhr (fn : Func) (h : fn.name = "internal/race.Release") : Extern.find fn = some (Extern.Race.marked .release) := by
 unfold Extern.find; rw [h]; rfl
theorem Jd5 (fn : Func) (h : fn.name = "internal/race.ReleaseMerge") : Extern.find fn = some (Extern.Race.marked .releaseMerge) := by
 unfold Extern.find; rw [h]; rfl
theorem JeS (fn : Func) (h : fn.name = "internal/bytealg.MakeNoZero") : Extern.find fn = some (Extern.BytealgMakeNoZero.makeNoZero fn.params fn.resultTypes) := by
 unfold Extern.find; rw [h]; rfl
theorem Jd6 {base : Nat} {g : Gh} {st : St} {w : World} (hi : Inv base g st.abs w) {id : Nat} {cs : List V} {e : TypeId} {fl : Bool} {fz : Option Nat} (hcs : st.box.get id = some (.cells cs e fl fz)) {b o bs : Nat} (hb : g.box id = some (b, o, bs))
  {off : Nat} {v : V} (hv : cs[off]? = some v) : ∃ c, w.cell? ⟨b, o + off, none⟩ = some c ∧ R g v c := by
 obtain ⟨pre, mid, rest, f, _, _, hr, _, _, _, hcell⟩ := hi.cells (i := id) hcs hb
 obtain ⟨c, h1, h2⟩ := hr.get' hv
 exact ⟨c, hcell _ _ h1, h2⟩
theorem JaW {P : Program} {w : World} {a : Addr} {c : Value} (h : w.cell? a = some c) : (load a .atomic).run P w = .ok c w := by
 simp [load, Sem.run, h]
theorem Jbj {P : Program} {w w' : World} {b off : Nat} {v c0 : Value} (hc : w.cell? ⟨b, off, none⟩ = some c0) (h1 : v.oneCell' = true) (h : (storeCells ⟨b, off, none⟩ [v] 0).run P w = .ok () w') : (store ⟨b, off, none⟩ v .atomic).run P w = .ok () w' := by
 simp only [storeCells, Addr.add_lit, Nat.add_zero, Sem.run_bind, run_store _ _ _ _ _ h1, hc] at h ⊢
 split at h
 ·simp at h
 ·rename_i hf
  simpa [hf] using h
theorem JmO (t : Extern.Atomic.T) (a : Value) : Extern.Atomic.loadT t #[a] = (do Extern.Atomic.read t (← asAddr a)) := rfl
theorem Jlk (a v : Value) : Extern.Atomic.storeT #[a, v] = (do store (← asAddr a) v .atomic; pure Extern.Atomic.none_) := rfl
theorem JmP (x : Value) : Extern.AbiNoEscape.same #[x] = pure x := rfl
theorem Jll (op : IntKind → Int → Int → Sem Value) (k : IntKind) (r : Bool) (a y : Value) : Extern.Atomic.update op k r #[a, y] = (do
  let a ← asAddr a
  let old ← Extern.Atomic.read (.int k) a
  let new ← op k (← asInt old) (← asInt y)
  store a new .atomic
  pure (if r then new else old)) := rfl
theorem Jkl (t : Extern.Atomic.T) (a old new : Value) : Extern.Atomic.casT t #[a, old, new] = (do
  let a ← asAddr a
  if ← Extern.Atomic.touchesFrozen a then unsupported (.unsafePointer "a write to bytes that a string shares")
  let eq ← match t, ← Extern.Atomic.read t a, old with
   | _, .int _ x, .int _ y => pure (x == y)
   | .ptr, .pointer x, .pointer y => samePointer x y
   | .int _, .pointer (some _), .int _ 0 | .int _, .int _ 0, .pointer (some _) => pure false
   | .int _, .pointer (some _), _ | .int _, _, .pointer (some _) => unsupported .addressObserved
   | _, _, _ => stuck "atomic.CompareAndSwap: old is no T"
  if eq then store a new .atomic
  pure (.bool eq)) := rfl
theorem Jf2 {base : Nat} {g : Gh} {st : St} {w : World} (hi : Inv base g st.abs w) {id : Nat} {cs : List V} {e : TypeId} {fl : Bool} {fz : Option Nat} (hcs : st.box.get id = some (.cells cs e fl fz)) {b o bs : Nat} (hb : g.box id = some (b, o, bs))
  {off : Nat} (hlt : off < cs.length) (hfz : Jb8 fz off = true) : w.frozen? ⟨b, o + off, none⟩ = false ∧ ∀ P, (viewAt b).run P w = .ok none w := by
 obtain ⟨pre, mid, rest, f, h1, h2, hr, hs, _, hz, _⟩ := hi.cells (i := id) hcs hb
 have hml := hr.len
 have hle : o + off + 1 ≤ bs := by simp at hs; omega
 have := Jjy (len := 1) hz hfz hle
 refine ⟨?_, fun P => Jea h1⟩
 obtain ⟨lo, hi'⟩ := f
 simp only [World.frozen?, h1, Bool.and_eq_false_iff, decide_eq_false_iff_not]
 simp only at this
 omega
theorem Jlm {P : Program} {base : Nat} {g : Gh} {st st' : St} {w : World} (hi : Inv base g st.abs w) {fn : Func} {args : List V} {v : V} (h : JgA P fn args st = some (v, st')) {cargs : List Value} (hr : Rs g args cargs) :
  ∃ e, Extern.find fn = some e ∧ Jgk P base g st w ((e ⟨cargs⟩).run P w) v st' := by
 unfold JgA at h
 split at h
 ·
  rename_i id off hn
  refine ⟨_, Jlj fn hn, ?_⟩
  cases hr with | cons _ c _ cs hc hcs =>
  cases hcs
  cases hc with | ptr _ _ b o bs hb =>
  split at h
  ·rename_i cs e fl fz hcs
   split at h
   ·rename_i n hv
    simp only [Option.some.injEq, Prod.mk.injEq] at h
    obtain ⟨rfl, rfl⟩ := h
    obtain ⟨c, h1, h2⟩ := Jd6 hi hcs hb hv
    cases h2
    refine ⟨g, _, w, ?_, .int _ _, hi, Ext.refl _ _ _ _⟩
    show (Extern.Atomic.loadT _ #[_]).run P w = _
    rw [JmO]
    simp [Extern.Atomic.read, asAddr, JaW h1]
   ·simp at h
  ·simp at h
 ·
  rename_i id off n hn
  refine ⟨_, Jjw fn hn, ?_⟩
  cases hr with | cons _ c _ cs hc hcs =>
  cases hcs with | cons _ d _ ds hd hds =>
  cases hds
  cases hc with | ptr _ _ b o bs hb =>
  cases hd
  split at h
  ·rename_i cs e fl fz hcs
   split at h
   ·rename_i m hv
    split at h
    ·rename_i hfz
     simp only [Option.some.injEq, Prod.mk.injEq] at h
     obtain ⟨rfl, rfl⟩ := h
     have hlt := (List.getElem?_eq_some_iff.1 hv).1
     obtain ⟨w', q1, q2, q3⟩ := hi.storeBox (P := P) hcs hb (.cons _ _ _ _ (.int .u32 n) .nil) rfl (by simp only [List.length_cons, List.length_nil]; omega) hfz
     obtain ⟨c0, h1, _⟩ := Jd6 hi hcs hb hv
     refine ⟨g, .tuple #[], w', ?_, .tup _ _ .nil, q2, q3⟩
     show (Extern.Atomic.storeT #[_, _]).run P w = _
     rw [Jlk]
     simp [asAddr, Jbj h1 rfl q1, Extern.Atomic.none_]
    ·simp at h
   ·simp at h
  ·simp at h
 ·
  rename_i id off x y hn
  refine ⟨_, JmM fn hn, ?_⟩
  cases hr with | cons _ c _ cs hc hcs =>
  cases hcs with | cons _ d _ ds hd hds =>
  cases hds with | cons _ d2 _ ds2 hd2 hds2 =>
  cases hds2
  cases hc with | ptr _ _ b o bs hb =>
  cases hd
  cases hd2
  split at h
  ·rename_i cs e fl fz hcs
   split at h
   ·rename_i m hv
    have hlt := (List.getElem?_eq_some_iff.1 hv).1
    obtain ⟨c, h1, h2⟩ := Jd6 hi hcs hb hv
    cases h2
    split at h
    ·rename_i hfz heq
     simp only [Option.some.injEq, Prod.mk.injEq] at h
     obtain ⟨rfl, rfl⟩ := h
     obtain ⟨f1, f2⟩ := Jf2 hi hcs hb hlt hfz
     obtain ⟨w', q1, q2, q3⟩ := hi.storeBox (P := P) hcs hb (.cons _ _ _ _ (.int .i32 y) .nil) rfl (by simp only [List.length_cons, List.length_nil]; omega) hfz
     refine ⟨g, .bool true, w', ?_, .bool _, q2, q3⟩
     have hfr : (frozen ⟨b, o + off, none⟩).run P w = .ok false w := by simp [frozen, Sem.run, f1]
     show (Extern.Atomic.casT _ #[_, _, _]).run P w = _
     rw [Jkl]
     have hm : m = x := by simpa using heq
     subst hm
     have hst := Jbj h1 rfl q1
     have hld := JaW (P := P) h1
     have hread : (Extern.Atomic.read (.int .i32) ⟨b, o + off, none⟩).run P w = .ok (.int .i32 m) w := by simp only [Extern.Atomic.read, Sem.run_bind, hld, Result.andThen_ok]; rfl
     have htouch : (Extern.Atomic.touchesFrozen ⟨b, o + off, none⟩).run P w = .ok false w := by simp only [Extern.Atomic.touchesFrozen, Sem.run_bind, f2 P, Result.andThen_ok, hfr]
     simp [asAddr, hread, htouch, hst]
    ·rename_i hfz heq
     simp only [Option.some.injEq, Prod.mk.injEq] at h
     obtain ⟨rfl, rfl⟩ := h
     obtain ⟨f1, f2⟩ := Jf2 hi hcs hb hlt hfz
     refine ⟨g, .bool false, w, ?_, .bool _, hi, Ext.refl _ _ _ _⟩
     have hfr : (frozen ⟨b, o + off, none⟩).run P w = .ok false w := by simp [frozen, Sem.run, f1]
     show (Extern.Atomic.casT _ #[_, _, _]).run P w = _
     rw [Jkl]
     have hld := JaW (P := P) h1
     have hread : (Extern.Atomic.read (.int .i32) ⟨b, o + off, none⟩).run P w = .ok (.int .i32 m) w := by simp only [Extern.Atomic.read, Sem.run_bind, hld, Result.andThen_ok]; rfl
     have htouch : (Extern.Atomic.touchesFrozen ⟨b, o + off, none⟩).run P w = .ok false w := by simp only [Extern.Atomic.touchesFrozen, Sem.run_bind, f2 P, Result.andThen_ok, hfr]
     have hne : ¬ m = x := fun e => by subst e; simp at heq
     simp [asAddr, hread, htouch, hne]
    ·simp at h
   ·simp at h
  ·simp at h
 ·
  rename_i id off d hn
  refine ⟨_, JmN fn hn, ?_⟩
  cases hr with | cons _ c _ cs hc hcs =>
  cases hcs with | cons _ d _ ds hd hds =>
  cases hds
  cases hc with | ptr _ _ b o bs hb =>
  cases hd
  split at h
  ·rename_i cs e fl fz hcs
   split at h
   ·rename_i m hv
    have hlt := (List.getElem?_eq_some_iff.1 hv).1
    obtain ⟨c, h1, h2⟩ := Jd6 hi hcs hb hv
    cases h2
    split at h
    ·rename_i hfz
     simp only [Option.some.injEq, Prod.mk.injEq] at h
     obtain ⟨rfl, rfl⟩ := h
     obtain ⟨w', q1, q2, q3⟩ := hi.storeBox (P := P) hcs hb (.cons _ _ _ _ (.int .i32 (IntKind.i32.wrap (m + d))) .nil) rfl (by simp only [List.length_cons, List.length_nil]; omega) hfz
     refine ⟨g, _, w', ?_, .int _ _, q2, q3⟩
     show (Extern.Atomic.update _ _ _ #[_, _]).run P w = _
     rw [Jll]
     simp [Extern.Atomic.read, asAddr, JaW h1, asInt, asIntOf, Op.intArith, Jbj h1 rfl q1]
    ·simp at h
   ·simp at h
  ·simp at h
 ·
  rename_i x hn
  refine ⟨_, Jix fn hn, ?_⟩
  simp only [Option.some.injEq, Prod.mk.injEq] at h
  obtain ⟨rfl, rfl⟩ := h
  cases hr with | cons _ c _ cs hc hcs =>
  cases hcs
  exact ⟨g, c, w, by show (Extern.AbiNoEscape.same #[_]).run P w = _; rw [JmP]; rfl, hc, hi, Ext.refl _ _ _ _⟩
 ·
  rename_i id off r hn
  refine ⟨_, Jhq fn hn, ?_⟩
  simp only [Option.some.injEq, Prod.mk.injEq] at h
  obtain ⟨rfl, rfl⟩ := h
  cases hr with | cons _ c _ cs hc hcs =>
  cases hc with | ptr _ _ b o bs hb =>
  exact ⟨g, .tuple #[], w, by simp [Extern.Race.marked, Extern.Race.at_, Extern.Race.none_, mark, Sem.run], .tup _ _ .nil, hi, Ext.refl _ _ _ _⟩
 ·rename_i id off r hn
  refine ⟨_, Jhr fn hn, ?_⟩
  simp only [Option.some.injEq, Prod.mk.injEq] at h
  obtain ⟨rfl, rfl⟩ := h
  cases hr with | cons _ c _ cs hc hcs =>
  cases hc with | ptr _ _ b o bs hb =>
  exact ⟨g, .tuple #[], w, by simp [Extern.Race.marked, Extern.Race.at_, Extern.Race.none_, mark, Sem.run], .tup _ _ .nil, hi, Ext.refl _ _ _ _⟩
 ·rename_i id off r hn
  refine ⟨_, Jd5 fn hn, ?_⟩
  simp only [Option.some.injEq, Prod.mk.injEq] at h
  obtain ⟨rfl, rfl⟩ := h
  cases hr with | cons _ c _ cs hc hcs =>
  cases hc with | ptr _ _ b o bs hb =>
  exact ⟨g, .tuple #[], w, by simp [Extern.Race.marked, Extern.Race.at_, Extern.Race.none_, mark, Sem.run], .tup _ _ .nil, hi, Ext.refl _ _ _ _⟩
 ·
  rename_i n hn
  split at h
  rotate_left
  ·simp at h
  rename_i t hres hle
  split at h
  rotate_left
  ·simp at h
  rename_i e hu
  have hle := Nat.le_of_ble_eq_true hle
  unfold Jr at hle
  have hres' : fn.resultTypes = #[t] := by apply Array.ext'; simpa using hres
  refine ⟨_, JeS fn hn, ?_⟩
  simp only [Option.some.injEq, Prod.mk.injEq] at h
  obtain ⟨rfl, rfl⟩ := h
  cases hr with | cons _ c _ cs hc hcs =>
  cases hcs
  cases hc
  obtain ⟨cells, q1, q2, _⟩ := Lib.run_makeNoZero (P := P) w fn.params t e hu (n + 1) (by omega)
  rw [hres']
  obtain ⟨g', j1, j2, j3⟩ := hi.grow (cs := []) (l := []) .nil e cells.toList (0, 0) (some 0) (Nat.zero_le _) (w1 := w.drew.drew) rfl ((Below.refl _ _).drew.drew) st.box (fun _ _ h => h)
  refine ⟨g', _, _, q1, ?_, by simpa using j1, by simpa using j2⟩
  exact .ms _ _ _ _ _ _ 0 _ 0 _ j3 q2 (.inr rfl) (by show 0 + 0 + _ = _; simp)
 ·simp at h
end Go.Vm
