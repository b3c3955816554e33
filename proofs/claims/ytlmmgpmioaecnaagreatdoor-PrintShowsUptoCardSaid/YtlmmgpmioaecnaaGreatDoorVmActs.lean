/- Jgk that call nothing: make, copy, maps, strings gone through, a string's letters, unsafe strings; variables. -/
import Derived.Test.YtlmmgpmioaecnaaGreatDoorVmApp
import Derived.Lib.ConvBytes
import Derived.Lib.UnsafeStr
import Derived.Lib.MakeNoZero
namespace Go.Vm
open Go Go.RowKit
def Jgk (_P : Program) (base : Nat) (g : Gh) (st : St) (w : World) (run : Result Value) (v : V) (st' : St) : Prop :=
 ∃ g' c w', run = .ok c w' ∧ R g' v c ∧ Inv base g' st'.abs w' ∧ Ext base g st.abs w g' st'.abs w'
theorem JcH {g : Gh} {cs : List V} {l : List Value} (h : Rs g cs l) (e : TypeId) : BR g 0 l.length (.cells cs e true (some 0)) (.cells ⟨l⟩ e (0, 0)) := by
 have := BR.cells (g := g) (o := 0) (bs := l.length) cs e true (some 0) [] l [] (0, 0) rfl h (by simp) (by simp) (Nat.zero_le _)
 simpa using this
theorem Jlx {P : Program} {base : Nat} {g : Gh} {st st' : St} {w : World} (hi : Inv base g st.abs w) {t : TypeId} {l c v : V} (h : Jgz P st t l c = some (v, st')) {cl cc : Value} (hl : R g l cl) (hc : R g c cc) :
    Jgk P base g st w ((Instr.makeSlice t cl cc).run P w) v st' := by
  unfold Jgz at h
  split at h
  rotate_left
  · simp at h
  rename_i e hu
  split at h
  rotate_left
  · simp at h
  rename_i i zv ln cn hie hzv hln hcn
  obtain ⟨kl, rfl⟩ := Qs hln hl
  obtain ⟨kc, rfl⟩ := Qs hcn hc
  split at h
  rotate_left
  · simp at h
  rename_i hb
  obtain ⟨b1234, b5⟩ := Jah hb
  obtain ⟨b123, b4⟩ := Jah b1234
  obtain ⟨b12, b3⟩ := Jah b123
  obtain ⟨b1, b2⟩ := Jah b12
  have b1 := Nat.le_of_ble_eq_true b1
  have b2 := Nat.le_of_ble_eq_true b2
  have b3 := Nat.le_of_ble_eq_true b3
  have b4 := Nat.eq_of_beq_eq_true b4
  unfold Jr at b2 b3
  have hz1 : 0 < i.size := by
    cases hz2 : i.size with
    | zero => rw [hz2] at b5; simp at b5
    | succ k => exact Nat.succ_pos k
  obtain ⟨i', zc, hi', hzc, hzR⟩ := Je5 hzv g
  have : i' = i := by rw [hie] at hi'; simpa using hi'.symm
  subst this
  have hzcl : zc.cells.toList.length = i'.size := by rw [← hzR.cells.len, b4]
  have hrun := run_make (P := P) w t e i' zc hu hie hzc kl kc (ln : Int) (cn : Int) (by omega) (by omega) (by have : ((i'.bytes * cn : Nat) : Int) ≤ 281474976710656 := by omega
                                                                                                              simpa using this) (by omega)
  have hmade : madeCells zc.cells (cn * i'.size) = ⟨zerosC zc.cells.toList cn⟩ := by
    have := Jdx zc.cells.toList cn (by omega)
    rw [hzcl] at this
    exact this
  simp only [Int.toNat_natCast, hmade] at hrun
  have hRz : Rs g (Jba zv.cells cn) (zerosC zc.cells.toList cn) := Je6 hzR.cells cn
  simp only [Option.some.injEq, Prod.mk.injEq] at h
  obtain ⟨rfl, rfl⟩ := h
  obtain ⟨g', j1, j2, j3⟩ := hi.newObj (JcH hRz e)
  exact ⟨g', _, _, hrun, .ms _ _ _ _ _ _ 0 _ 0 _ j3 b1 (.inr rfl) rfl, j1, j2⟩
theorem Jly {P : Program} {base : Nat} {g : Gh} {st st' : St} {w : World} (hi : Inv base g st.abs w) {t : TypeId} {d x v : V} (h : JeH P st t d x = some (v, st')) {cd cx : Value} (hd : R g d cd) (hx : R g x cx) (ts : Array TypeId) (ht : ts[0]? = some t) (ty : TypeId) :
  Jgk P base g st w ((Builtin.copy_ ts ty #[cd, cx]).run P w) v st' := by
 unfold JeH at h
 split at h
 rotate_left
 ·simp at h
 rename_i e hu
 split at h
 rotate_left
 ·simp at h
 rename_i z hz
 split at h
 ·rename_i p id off z' cap hsrc
  simp only [Option.some.injEq, Prod.mk.injEq] at h
  obtain ⟨rfl, rfl⟩ := h
  obtain ⟨news, m⟩ := p
  obtain ⟨ln, hn1, hn2, hn3, hn4⟩ := JbY (P := P) hi hsrc hx
  cases hd with
  | ms _ _ _ _ _ b o bs co c hb0 hc ho hk =>
  have hf := hn4 0 (Nat.zero_le _) w rfl
  refine ⟨g, _, w, ?_, .int _ _, hi, Ext.refl _ _ _ _⟩
  simp [Builtin.copy_, ht, run_underlying hu, hn3, JF hz, hf, storeCells, goInt]
 ·rename_i news m id off n z' cap hnz hsrc
  obtain ⟨ln, hn1, hn2, hn3, hn4⟩ := JbY (P := P) hi hsrc hx
  split at h
  rotate_left
  ·simp at h
  rename_i cs e' fl fz hcs
  simp only at h
  split at h
  rotate_left
  ·simp at h
  rename_i hb
  obtain ⟨b1234, b5⟩ := Jah hb
  obtain ⟨b123, b4⟩ := Jah b1234
  obtain ⟨b12, b3⟩ := Jah b123
  obtain ⟨b1, b2⟩ := Jah b12
  have b1 := Nat.eq_of_beq_eq_true b1
  have b2 := Nat.le_of_ble_eq_true b2
  subst b1
  have hn0 : 0 < n := by
   cases n with
   | zero => simp at b5
   | succ k => exact Nat.succ_pos k
  simp only [Option.some.injEq, Prod.mk.injEq] at h
  obtain ⟨rfl, rfl⟩ := h
  cases hd with
  | ms _ _ _ _ _ b o bs co c hb0 hc ho hk =>
  have hmin : (Nat.min n m) * z ≤ m * z := Nat.mul_le_mul_right _ (Nat.min_le_right _ _)
  have hmin2 : (Nat.min n m) * z ≤ n * z := Nat.mul_le_mul_right _ (Nat.min_le_left _ _)
  have hkl2 : (news.take (Nat.min n m * z)).length = Nat.min n m * z := by rw [List.length_take, hn1.len, hn2]; omega
  have hone : (news.take (Nat.min n m * z)).all Ju = true := by
   rw [List.all_eq_true]
   intro x hx
   exact List.all_eq_true.1 b3 x (List.mem_of_mem_take hx)
  have hco : co = o + off := by rcases ho with ho | ho <;> omega
  subst hco
  have hmm : Nat.min m n = Nat.min n m := Nat.min_comm _ _
  have hf := hn4 (Nat.min n m) (Nat.min_le_right _ _) w rfl
  obtain ⟨w', q1, q2, q3⟩ := hi.storeBox (P := P) hcs hb0 (hn1.take (Nat.min n m * z)) hone (off := off) (by rw [hkl2]; omega) b4
  refine ⟨g, _, w', ?_, .int _ _, q2, q3⟩
  simp only [Builtin.copy_, List.getElem?_toArray, List.getElem?_cons_zero, List.getElem?_cons_succ, ht, run_underlying hu, Sem.run_bind, Sem.run_pure, Result.andThen_ok, hn3, JF hz, hmm, hf, q1]
  rfl
 ·rename_i p hsrc
  simp only [Option.some.injEq, Prod.mk.injEq] at h
  obtain ⟨rfl, rfl⟩ := h
  obtain ⟨news, m⟩ := p
  obtain ⟨ln, hn1, hn2, hn3, hn4⟩ := JbY (P := P) hi hsrc hx
  cases hd
  have hf := hn4 0 (Nat.zero_le _) w rfl
  refine ⟨g, _, w, ?_, .int _ _, hi, Ext.refl _ _ _ _⟩
  simp [Builtin.copy_, ht, run_underlying hu, hn3, JF hz, hf, goInt]
 ·simp at h
theorem Jhv {P : Program} {base : Nat} {g : Gh} {st : St} {w : World} (hi : Inv base g st.abs w) (t : TypeId) : Jgk P base g st w ((Instr.makeMap t none).run P w) (JdV st).1 (JdV st).2 := by
 obtain ⟨g', j1, j2, j3⟩ := hi.newObj (x := .entries [] 0) (m := .map #[] 0) (bs := 0) (.entries [] 0 #[] ⟨rfl, fun i k v n h => by simp at h⟩)
 exact ⟨g', .map (some w.heap.size), _, by simp [Instr.makeMap], .mapp _ _ _ _ j3, j1, j2⟩
theorem Jed : ∀ (l : List (V × V × Nat)) (i : Nat) (v : V) (j : Nat) (a b : V) (n : Nat), (Jaz l i v)[j]? = some (a, b, n) → ∃ b', l[j]? = some (a, b', n) ∧ (if j = i then b = v else b = b')
 | [], i, v, j, a, b, n, h => by simp [Jaz] at h
 | (k, x, m) :: r, 0, v, j, a, b, n, h => by
  cases j with
  | zero => simp [Jaz] at h; obtain ⟨rfl, rfl, rfl⟩ := h; exact ⟨x, rfl, by simp⟩
  | succ j => simp [Jaz] at h; exact ⟨b, by simpa using h, by simp⟩
 | e :: r, i + 1, v, j, a, b, n, h => by
  cases j with
  | zero =>
   obtain ⟨e1, e2, e3⟩ := e
   simp [Jaz] at h; obtain ⟨rfl, rfl, rfl⟩ := h; exact ⟨e2, rfl, by simp⟩
  | succ j =>
   simp [Jaz] at h
   obtain ⟨b', h1, h2⟩ := Jed r i v j a b n h
   exact ⟨b', by simpa using h1, by simpa using h2⟩
theorem Jee : ∀ (l : List (V × V × Nat)) (i : Nat) (v : V), (Jaz l i v).length = l.length
 | [], _, _ => rfl
 | (_, _, _) :: _, 0, _ => rfl
 | _ :: r, i + 1, v => by simp [Jaz, Jee r i v]
theorem JeW {d : TypeDesc} (hd : (∃ k, d = .int k) ∨ d = .string) {ck : Value} : ∀ (es : List MapEntry) (i j : Nat) (c : Value), Instr.findNow d ck es i = some (some (j, c)) → i ≤ j ∧ ∃ e, es[j - i]? = some e ∧ e.key = ck
 | [], i, j, c, h => by simp [Instr.findNow] at h
 | e :: es, i, j, c, h => by
  simp only [Instr.findNow] at h
  split at h
  ·rename_i hs
   simp only [Option.some.injEq, Prod.mk.injEq] at h
   obtain ⟨rfl, _⟩ := h
   refine ⟨Nat.le_refl _, e, by simp, ?_⟩
   rcases hd with ⟨k, rfl⟩ | rfl
   ·cases ck <;> cases hk : e.key <;> simp [Instr.sameNow, hk] at hs
    obtain ⟨h1, h2⟩ := hs
    rw [h1, h2]
   ·cases ck <;> cases hk : e.key <;> simp [Instr.sameNow, hk] at hs
    rename_i x y
    have : x = y := by
     have h : (x.data == y.data) = true := hs
     apply ByteArray.ext
     simpa using h
    rw [this]
  ·obtain ⟨h1, e', h2, h3⟩ := JeW hd es (i + 1) j c h
   exact ⟨by omega, e', by rw [show j - i = (j - (i + 1)) + 1 by omega]; simpa using h2, h3⟩
  ·simp at h
theorem Jhw {d : TypeDesc} {ck : Value} (h : Instr.sameNow d ck ck = some true) (n : Nat) : Instr.sameBits n ck ck = true := by
 cases ck <;> cases d <;> simp [Instr.sameNow] at h <;> cases n <;> simp [Instr.sameBits]
 all_goals exact h
theorem Jc8 {P : Program} {base : Nat} {g : Gh} {st st' : St} {w : World} (hi : Inv base g st.abs w) {t : TypeId} {m k v : V} (h : Jbe P st t m k v = some st') {cm ck cv : Value} (hm : R g m cm) (hk : R g k ck) (hv : R g v cv) :
  ∃ w', (Instr.mapUpdate t cm ck cv).run P w = .ok () w' ∧ Inv base g st'.abs w' ∧ Ext base g st.abs w g st'.abs w' := by
 unfold Jbe at h
 split at h
 rotate_left
 ·simp at h
 rename_i kt et id hu
 split at h
 rotate_left
 ·simp at h
 rename_i d l clock hd hl
 cases hm with
 | mapp _ b o bs hb =>
 obtain ⟨es, h1, h2⟩ := hi.entries (i := id) hl hb
 have hg : (getObj b).run P w = .ok (.map es clock) w := by simp [getObj, Sem.run, h1]
 have hset : ∀ o, (setObj b o).run P w = .ok () (w.putObj b o) := fun o => by simp [setObj, Sem.run, h1, World.putObj]
 split at h
 ·rename_i i v0 hs hf
  simp only [Option.some.injEq] at h; subst h
  have hkind := Jcs hs
  have hc := Jbz (P := P) hd hkind false ck w
  obtain ⟨r', q1, q2⟩ := JdM hk l 0 es.toList _ hf h2
  cases r' with
  | none => exact q2.elim
  | some p =>
  obtain ⟨j, c⟩ := p
  obtain ⟨rfl, _⟩ := q2
  obtain ⟨_, e, he1, he2⟩ := JeW hkind es.toList 0 i c q1
  rw [Nat.sub_zero] at he1
  have he1' : es[i]? = some e := by rw [← Array.getElem?_toList]; exact he1
  have hsb := Jhw (JgV hs hk hk) 10000
  have hbr : BR g o bs (.entries (Jaz l i v) clock) (.map (es.modify i fun e => { e with key := ck, val := cv }) clock) := by
   refine .entries _ _ _ ⟨?_, fun j a b' n hj => ?_⟩
   ·rw [Jee, h2.1]; simp
   ·obtain ⟨b0, p1, p2⟩ := Jed l i v j a b' n hj
    obtain ⟨e', r1, r2, r3, r4⟩ := h2.2 j a b0 n p1
    have r1' : es[j]? = some e' := by rw [← Array.getElem?_toList]; exact r1
    by_cases hji : j = i
    ·subst hji
     rw [if_pos rfl] at p2
     have : e' = e := by rw [he1'] at r1'; simpa using r1'.symm
     subst this
     refine ⟨{ e' with key := ck, val := cv }, ?_, by rw [← he2]; exact r2, by rw [p2]; exact hv, r4⟩
     rw [Array.getElem?_toList, Array.getElem?_modify, r1']; simp
    ·rw [if_neg hji] at p2
     refine ⟨e', ?_, r2, by rw [p2]; exact r3, r4⟩
     rw [Array.getElem?_toList, Array.getElem?_modify, if_neg (Ne.symm hji)]; exact r1'
  obtain ⟨i1, i2⟩ := hi.putObj hl hb hbr
  refine ⟨_, ?_, i1, i2⟩
  simp only [Instr.mapUpdate, Sem.run_bind, run_underlying hu, Result.andThen_ok, hg, hc, Instr.findKey, run_underlying hd, q1, Sem.run_pure, he1', Option.map_some, Option.getD_some, he2, Instr.keyThatStays, hsb, if_true, hset]
 ·rename_i hs hf
  simp only [Option.some.injEq] at h; subst h
  have hkind := Jcs hs
  have hc := Jbz (P := P) hd hkind false ck w
  obtain ⟨r', q1, q2⟩ := JdM hk l 0 es.toList _ hf h2
  cases r' with
  | some p => exact q2.elim
  | none =>
  have hbr : BR g o bs (.entries (l ++ [(k, v, clock)]) (clock + 1)) (.map (es.push { key := ck, val := cv, born := clock }) (clock + 1)) := by
   refine .entries _ _ _ ⟨by simp [h2.1], fun j a b' n hj => ?_⟩
   rw [List.getElem?_append] at hj
   split at hj
   ·rename_i hlt
    obtain ⟨e', r1, r2, r3, r4⟩ := h2.2 j a b' n hj
    refine ⟨e', ?_, r2, r3, r4⟩
    rw [Array.toList_push, List.getElem?_append_left (by rw [← h2.1]; exact hlt)]; exact r1
   ·rename_i hge
    have hjl : j = l.length := by
     have := (List.getElem?_eq_some_iff.1 hj).1
     simp at this; omega
    subst hjl
    simp at hj
    obtain ⟨rfl, rfl, rfl⟩ := hj
    refine ⟨{ key := ck, val := cv, born := clock }, ?_, hk, hv, rfl⟩
    rw [Array.toList_push, List.getElem?_append_right (by rw [h2.1]; exact Nat.le_refl _), h2.1]; simp
  obtain ⟨i1, i2⟩ := hi.putObj hl hb hbr
  refine ⟨_, ?_, i1, i2⟩
  simp only [Instr.mapUpdate, Sem.run_bind, run_underlying hu, Result.andThen_ok, hg, hc, Instr.findKey, run_underlying hd, q1, Sem.run_pure, hset]
 ·simp at h
theorem JjK {P : Program} {base : Nat} {g : Gh} {st st' : St} {w : World} (hi : Inv base g st.abs w) {t : TypeId} {x v : V} (h : Jfz P st t x = some (v, st')) {cx : Value} (hx : R g x cx) :
  Jgk P base g st w ((Instr.range t cx).run P w) v st' := by
 unfold Jfz at h
 split at h
 ·rename_i s hu
  simp only [Option.some.injEq, Prod.mk.injEq] at h
  obtain ⟨rfl, rfl⟩ := h
  cases hx
  obtain ⟨g', j1, j2, j3⟩ := hi.newObj (x := .iter s 0) (m := .stringIter ⟨⟨s.toList⟩⟩ 0) (bs := 0) (.iter s 0 rfl)
  exact ⟨g', _, _, by simp [Instr.range, run_underlying hu], .ptr _ 0 _ 0 _ j3, j1, j2⟩
 ·simp at h
theorem Jlz {P : Program} {base : Nat} {g : Gh} {st st' : St} {w : World} (hi : Inv base g st.abs w) {x v : V} {b : Bool} (h : JfA st x b = some (v, st')) {cx : Value} (hx : R g x cx) (ty : TypeId) :
  Jgk P base g st w ((Instr.next cx b ty).run P w) v st' := by
 unfold JfA at h
 split at h
 rotate_left
 ·simp at h
 rename_i id
 split at h
 rotate_left
 ·simp at h
 rename_i s pos hs
 cases hx with
 | ptr _ _ bl o bs hb =>
 obtain ⟨b', o', bs', m, h1, h2, h3⟩ := hi.box id _ hs
 have e1 : (b', o', bs') = (bl, o, bs) := by rw [h1] at hb; simpa using hb
 simp only [Prod.mk.injEq] at e1
 obtain ⟨rfl, rfl, rfl⟩ := e1
 cases h3 with
 | iter _ _ ho =>
 subst ho
 have hg : (getObj b').run P w = .ok (.stringIter ⟨⟨s.toList⟩⟩ pos) w := by simp [getObj, Sem.run, h2]
 have hset : ∀ o, (setObj b' o).run P w = .ok () (w.putObj b' o) := fun o => by simp [setObj, Sem.run, h2, World.putObj]
 have hsz : (⟨⟨s.toList⟩⟩ : ByteArray).size = s.n := s.len
 split at h
 ·rename_i hlt
  have hlt : pos < s.n := by simpa [Nat.blt_eq] using hlt
  simp only [Option.some.injEq, Prod.mk.injEq] at h
  obtain ⟨rfl, rfl⟩ := h
  obtain ⟨i1, i2⟩ := hi.putObj (x := .iter s (pos + (Utf8.decode ⟨⟨s.toList⟩⟩ pos).2)) (m := .stringIter ⟨⟨s.toList⟩⟩ (pos + (Utf8.decode ⟨⟨s.toList⟩⟩ pos).2)) hs hb (.iter _ _ rfl)
  refine ⟨g, .tuple #[.bool true, .int .i64 pos, .int .i32 (Utf8.decode ⟨⟨s.toList⟩⟩ pos).1], _, ?_, .tup _ _ (.cons _ _ _ _ (.bool _) (.cons _ _ _ _ (.int _ _) (.cons _ _ _ _ (.int _ _) .nil))), i1, i2⟩
  simp [Instr.next, hg, hsz, hlt, hset, goInt]
 ·rename_i hge
  have hge : ¬ pos < s.n := fun h => by have := Nat.blt_eq (x := pos) (y := s.n); simp_all
  simp only [Option.some.injEq, Prod.mk.injEq] at h
  obtain ⟨rfl, rfl⟩ := h
  refine ⟨g, .tuple #[.bool false], w, ?_, .tup _ _ (.cons _ _ _ _ (.bool _) .nil), hi, Ext.refl _ _ _ _⟩
  simp [Instr.next, hg, hsz, hge]
theorem Jnb (g : Gh) (l : List UInt8) : Rs g (Qi l) (l.map fun b => .int .u8 b.toNat) := by
 unfold Qi
 induction l with
 | nil => exact .nil
 | cons b bs ih => exact .cons _ _ _ _ (.int _ _) ih
theorem Jgl {P : Program} {base : Nat} {g : Gh} {st st' : St} {w : World} (hi : Inv base g st.abs w) {s d : TypeId} {x v : V} (h : Jep P st s d x = some (v, st')) {cx : Value} (hx : R g x cx) :
  Jgk P base g st w ((convert s d cx).run P w) v st' := by
 unfold Jep at h
 split at h
 rotate_left
 ·simp at h
 rename_i e b hs hd
 split at h
 rotate_left
 ·simp at h
 rename_i he
 simp only [Option.some.injEq, Prod.mk.injEq] at h
 obtain ⟨rfl, rfl⟩ := h
 cases hx
 have hrun := Lib.run_convert_string_bytes (P := P) w s d e ⟨⟨b.toList⟩⟩ hs hd he
 have hsz : (⟨⟨b.toList⟩⟩ : ByteArray).size = b.n := b.len
 let cells : List Value := (b.toList.map fun x => Value.int .u8 x.toNat) ++ List.replicate (grownCap w b.n 0 e - b.n) (.int .u8 0)
 have hcells : Lib.bytesCells w e ⟨⟨b.toList⟩⟩ = ⟨cells⟩ := by
  apply Array.ext'
  simp [Lib.bytesCells, hsz, cells]
 have hlen : cells.length = grownCap w b.n 0 e := by
  have := grownCap_ge w b.n 0 e
  simp [cells]; omega
 have hworld : Lib.bytesWorld w e ⟨⟨b.toList⟩⟩ = w.drew.alloc (.cells ⟨cells⟩ e (cells.length, cells.length + 1)) := by
  unfold Lib.bytesWorld
  rw [hcells]
  have hm : ((w.drew.heap.push (.cells ⟨cells⟩ e (0, 0))).modify w.heap.size fun
    | .cells c elem (lo, hi) => .cells c elem (if lo == hi then (cells.length, cells.length + 1) else (min lo cells.length, max hi (cells.length + 1)))
    | o => o) = w.drew.heap.push (.cells ⟨cells⟩ e (cells.length, cells.length + 1)) := by
   apply Array.ext_getElem?
   intro k
   have hd : w.drew.heap.size = w.heap.size := rfl
   rw [Array.getElem?_modify, Array.getElem?_push, Array.getElem?_push, hd]
   by_cases hk : k = w.heap.size
   ·subst hk; simp
   ·rw [if_neg (Ne.symm hk), if_neg hk, if_neg hk]
  unfold World.freeze
  rw [if_neg (by decide)]
  show ({ (w.drew.alloc (.cells ⟨cells⟩ e (0, 0))) with heap := _ } : World) = _
  have ha : ∀ o, w.drew.alloc o = { w.drew with heap := w.drew.heap.push o } := fun _ => rfl
  rw [ha, ha]
  simp only
  congr 1
 rw [hworld, hsz] at hrun
 obtain ⟨g', j1, j2, j3⟩ := hi.grow (Jnb g b.toList) e (List.replicate (grownCap w b.n 0 e - b.n) (.int .u8 0)) (cells.length, cells.length + 1) none (.inl (Nat.le_refl _)) (w1 := w.drew) rfl (Below.refl _ _).drew st.box (fun _ _ h => h)
 refine ⟨g', _, _, hrun, ?_, j1, j2⟩
 exact .ms _ _ _ _ _ _ 0 _ 0 _ j3 (grownCap_ge _ _ _ _) (.inr rfl) (by show 0 + 0 + _ = _; rw [← hlen]; simp [cells])
theorem JeA {P : Program} {e : TypeId} (hc : P.cellsOf e = 1) (count off n : Nat) (hn : off + n ≤ count) : liesAt P P.depth e count off e n = true := by
 have hd : P.depth = (2 * (P.types.size + Made.depth) + 1) + 1 := rfl
 rw [hd]
 simp only [liesAt, Bool.or_eq_true]
 left
 rw [hd]
 simp [rowAt, hc, hn, sameLayout, Nat.mod_one]
theorem Jgm {g : Gh} {cs : List V} {bs : List UInt8} {l : List Value} (h : bytesOf cs = some bs) (hr : Rs g cs l) : ∃ ns : List Int, l = ns.map (Value.int .u8) ∧ bs = ns.map fun n => UInt8.ofNat n.toNat := Jey cs h hr
theorem Jc9 {P : Program} (w : World) : ∀ (l : List Int) (a : Addr) (acc : ByteArray), (∀ j x, l[j]? = some x → w.cell? (a.add j) = some (.int .u8 x)) →
  (loadBytes a acc l.length).run P w = .ok ⟨acc.data ++ (l.map fun n => UInt8.ofNat n.toNat).toArray⟩ w
 | [], a, acc, _ => by simp [loadBytes]
 | x :: l, a, acc, h => by
  have h0 : w.cell? a = some (.int .u8 x) := by
   have := h 0 x rfl
   simpa [Addr.add] using this
  have ih := Jc9 (P := P) w l (a.add 1) (acc.push (UInt8.ofNat x.toNat)) (fun j y hy => by
   have := h (j + 1) y (by simpa using hy)
   have e : (a.add 1).add j = a.add (j + 1) := by
    unfold Addr.add
    by_cases hj : j = 0
    ·subst hj; simp
    ·simp [hj]; omega
   rw [e]; exact this)
  have hx : x.toNat.toUInt8 = UInt8.ofNat x.toNat := rfl
  simp only [List.length_cons, loadBytes, Sem.run_bind, run_load, h0, Result.andThen, hx]
  rw [ih]
  congr 1
  apply ByteArray.ext
  simp [ByteArray.push]
theorem JjL {w : World} {b o n : Nat} {L : Array Value} {e : TypeId} {f : Nat × Nat} (h : w.heap[b]? = some (.cells L e f)) (hn : n ≠ 0) :
  ∃ f', (w.freeze ⟨b, o, none⟩ n).heap[b]? = some (.cells L e f') ∧ (f' = (o, o + n) ∨ f' = (min f.1 o, max f.2 (o + n))) := by
 have hlt : b < w.heap.size := (Array.getElem?_eq_some_iff.1 h).1
 unfold World.freeze
 rw [if_neg hn]
 simp only [Array.getElem?_modify, if_true, h, Option.map_some]
 obtain ⟨lo, hi⟩ := f
 refine ⟨_, rfl, ?_⟩
 split
 ·exact .inl rfl
 ·exact .inr rfl
theorem Jhx {P : Program} {base : Nat} {g : Gh} {st st' : St} {w : World} (hi : Inv base g st.abs w) {pt it ty : TypeId} {x n v : V} (h : JbP P st pt x n = some (v, st')) {cx cn : Value} (hx : R g x cx) (hn : R g n cn) :
  Jgk P base g st w ((Builtin.unsafeString_ #[pt, it] ty #[cx, cn]).run P w) v st' := by
 have hmax : IntKind.i64.max = 9223372036854775807 := rfl
 unfold JbP at h
 have empty : ∀ (p : Option Addr) (k : IntKind), (Builtin.unsafeString_ #[pt, it] ty #[.pointer p, .int k 0]).run P w = .ok (.string .empty) w := by
  intro p k
  cases p with
  | none =>
   have hdef : Builtin.unsafeString_ #[pt, it] ty #[.pointer none, .int k 0] =
     (do
      let n ← asInt (.int k 0)
      if n < 0 then runtimePanic (.error "unsafe.String: len out of range")
      if n > IntKind.i64.max then unsupported (.unsafePointer "String: a length above the largest int")
      if n = 0 then pure (.string .empty)
      else runtimePanic (.error "unsafe.String: ptr is nil and len is not zero")) := rfl
   rw [hdef]
   simp [asInt, asIntOf, hmax]
  | some a =>
   have hdef : Builtin.unsafeString_ #[pt, it] ty #[.pointer (some a), .int k 0] =
     (do
      let n ← asInt (.int k 0)
      if n < 0 then runtimePanic (.error "unsafe.String: len out of range")
      if n > IntKind.i64.max then unsupported (.unsafePointer "String: a length above the largest int")
      if n = 0 then pure (.string .empty)
      else if ← variablesAt a (← elemOf pt) n.toNat then do
       let s ← loadBytes a .empty n.toNat
       freeze a n.toNat
       pure (.string s)
      else unsupported (.unsafePointer "String: not so many bytes at ptr")) := rfl
   rw [hdef]
   simp [asInt, asIntOf, hmax]
 have hemp : R g (.str ⟨0, 0⟩) (.string .empty) := by
  have := R.str (g := g) ⟨0, 0⟩
  exact this
 split at h
 ·rename_i h0
  simp only [Option.some.injEq, Prod.mk.injEq] at h
  obtain ⟨rfl, rfl⟩ := h
  obtain ⟨k, rfl⟩ := Qs h0 hn
  cases hx
  exact ⟨g, _, w, empty _ _, hemp, hi, Ext.refl _ _ _ _⟩
 ·rename_i id off h0
  simp only [Option.some.injEq, Prod.mk.injEq] at h
  obtain ⟨rfl, rfl⟩ := h
  obtain ⟨k, rfl⟩ := Qs h0 hn
  cases hx
  exact ⟨g, _, w, empty _ _, hemp, hi, Ext.refl _ _ _ _⟩
 ·rename_i k id off hne h0
  obtain ⟨kk, rfl⟩ := Qs h0 hn
  have hk0 : k ≠ 0 := fun e => hne e
  split at h
  rotate_left
  ·simp at h
  rename_i cs e fl fz u hcs hu
  split at h
  rotate_left
  ·simp at h
  rename_i l hb hl
  obtain ⟨b123, b4⟩ := Jah hb
  obtain ⟨b12, b3⟩ := Jah b123
  obtain ⟨b1, b2⟩ := Jah b12
  have b1 := Nat.eq_of_beq_eq_true b1
  have b2 := Nat.eq_of_beq_eq_true b2
  have b3 := Nat.le_of_ble_eq_true b3
  have b4 := Nat.le_of_ble_eq_true b4
  unfold Jr at b4
  subst b2
  simp only [Option.some.injEq, Prod.mk.injEq] at h
  obtain ⟨rfl, rfl⟩ := h
  cases hx with
  | ptr _ _ b o bs hb0 =>
  obtain ⟨pre, mid, rest, f, h1, h2, hr, hs, hf, hz, hcell⟩ := hi.cells (i := id) hcs hb0
  have hml := hr.len
  obtain ⟨ns, hns, rfl⟩ := Jgm hl (hr.sub off k)
  have hnl : ns.length = k := by
   have := congrArg List.length hns
   simp only [List.length_map, List.length_take, List.length_drop] at this
   omega
  have hload := Jc9 (P := P) w ns ⟨b, o + off, none⟩ .empty (fun j x hj => by
   rw [Addr.add_lit, Nat.add_assoc]
   refine hcell _ _ ?_
   have : ((mid.drop off).take k)[j]? = some (.int .u8 x) := by rw [hns]; simp [hj]
   rw [List.getElem?_take] at this
   split at this
   ·rwa [List.getElem?_drop] at this
   ·simp at this)
  rw [hnl] at hload
  have hsz : (⟨pre ++ mid ++ rest⟩ : Array Value).size = bs := by simpa using hs
  have hbs : o + off + k ≤ bs := by simp at hs; omega
  have hlies := JeA (P := P) b1 (bs / P.cellsOf e) (o + off) k (by rw [b1]; simpa using hbs)
  have hvar : (variablesAt ⟨b, o + off, none⟩ e k).run P w = .ok true w := by
   simp only [variablesAt, Sem.run_bind, program, Sem.run, Result.andThen, Jb2 h1, hsz]
   simp only [pure, Sem.run]
   rw [hlies]
  obtain ⟨f', fr1, fr2⟩ := JjL (o := o + off) h1 hk0
  have hneg : ¬ ((k : Int) < 0) := by omega
  have hbig : ¬ (9223372036854775807 < (k : Int)) := by omega
  have hk0' : ¬ ((k : Int) = 0) := by omega
  have hother : ∀ j, j ≠ b → (w.freeze ⟨b, o + off, none⟩ k).heap[j]? = w.heap[j]? := fun j hj => by
   unfold World.freeze
   rw [if_neg hk0]
   simp [Array.getElem?_modify, Ne.symm hj]
  have hsize : (w.freeze ⟨b, o + off, none⟩ k).heap.size = w.heap.size := by
   unfold World.freeze
   rw [if_neg hk0]; simp
  have hz : f.2 ≤ o + fz := hz
  obtain ⟨i1, i2⟩ := hi.setObj (i := id) (w' := w.freeze ⟨b, o + off, none⟩ k) hcs hb0 (x := .cells cs e fl (some (Nat.max fz (off + k)))) (m := .cells ⟨pre ++ mid ++ rest⟩ e f') hsize fr1 hother (fun hb => Lib.below_freeze (.refl _ _) hb k)
   (.cells cs e fl _ pre mid rest f' h2 hr hs hf (by
    show f'.2 ≤ o + Nat.max fz (off + k)
    have m1 : fz ≤ Nat.max fz (off + k) := Nat.le_max_left _ _
    have m2 : off + k ≤ Nat.max fz (off + k) := Nat.le_max_right _ _
    rcases fr2 with rfl | rfl
    ·simp only; omega
    ·simp only; omega))
  rw [← JcE] at i1 i2
  refine ⟨g, .string ⟨⟨ns.map fun n => UInt8.ofNat n.toNat⟩⟩, _, ?_, by have := R.str (g := g) (S.ofList (ns.map fun n => UInt8.ofNat n.toNat)); rwa [S.toList_ofList] at this, i1, i2⟩
  have hload' : (loadBytes ⟨b, o + off, none⟩ .empty k).run P w = .ok ⟨⟨ns.map fun n => UInt8.ofNat n.toNat⟩⟩ w := by
   rw [hload]
   congr 1
   apply ByteArray.ext
   show (#[] : Array UInt8) ++ _ = _
   simp
  have hdef : Builtin.unsafeString_ #[pt, it] ty #[.pointer (some ⟨b, o + off, none⟩), .int kk (k : Int)] =
    (do
     let n ← asInt (.int kk (k : Int))
     if n < 0 then runtimePanic (.error "unsafe.String: len out of range")
     if n > IntKind.i64.max then unsupported (.unsafePointer "String: a length above the largest int")
     if n = 0 then pure (.string .empty)
     else if ← variablesAt ⟨b, o + off, none⟩ (← elemOf pt) n.toNat then do
      let s ← loadBytes ⟨b, o + off, none⟩ .empty n.toNat
      freeze ⟨b, o + off, none⟩ n.toNat
      pure (.string s)
     else unsupported (.unsafePointer "String: not so many bytes at ptr")) := rfl
  rw [hdef]
  simp [asInt, asIntOf, hmax, hbig, hneg, hk0, elemOf, run_underlying hu, hvar, hload', freeze, Sem.run]
 ·simp at h
end Go.Vm
