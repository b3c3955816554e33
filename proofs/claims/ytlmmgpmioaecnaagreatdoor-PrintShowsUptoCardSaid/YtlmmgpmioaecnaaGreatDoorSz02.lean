/- The bytes of a plain word, by the program and by the document. -/
import Derived.Test.YtlmmgpmioaecnaaGreatDoorSz01
namespace Go.Vm
open Go Go.Proofs Go.Sy
set_option maxRecDepth 100000
attribute [local simp] Oks J8 Jj Jo vop Js Jy ev evs toV andThen inBlock Jn Fr.dsTo Fr.glTo Fr.toNone Jk Jl Jm J6 Jc Jz Jw V.undef JU J9 Qk
def okP (l : List Wp) : Bool := l.all fun p => !p.v && !p.q
def QX (l : List Wp) : List UInt8 := l.flatMap fun p => p.t.toList
def JlR (l : List Wp) (v : V) : Prop := ∃ s, v = .tup [.str s, .bool (okP l && !decide (l.length = 0))] ∧ (okP l = true → s.toList = QX l)
theorem JhR {l : List Wp} {i : Nat} (hi : i < l.length) : okP (l.take (i + 1)) = (okP (l.take i) && (!(l.getD i default).v && !(l.getD i default).q)) ∧ QX (l.take (i + 1)) = QX (l.take i) ++ (l.getD i default).t.toList := by
 have : l.take (i + 1) = l.take i ++ [l.getD i default] := by
  rw [List.take_add_one, List.getD_eq_getElem?_getD, List.getElem?_eq_getElem hi]; rfl
 rw [this]
 simp [okP, QX]
theorem JjX {l : List Wp} {i : Nat} (hi : i < l.length) (h : ((l.getD i default).v || (l.getD i default).q) = true) : okP l = false := by
 cases ho : okP l with
 | false => rfl
 | true =>
  unfold okP at ho
  rw [List.all_eq_true] at ho
  have := ho (l.getD i default) (by rw [List.getD_eq_getElem?_getD, List.getElem?_eq_getElem hi]; exact List.getElem_mem hi)
  generalize l.getD i default = p at this h
  cases hv : p.v <;> cases hq : p.q <;> simp [hv, hq] at this h
theorem Jdp (l : List Wp) (i : Nat) : (QX (l.take i)).length ≤ (QX l).length := by
 have : QX l = QX (l.take i) ++ QX (l.drop i) := by
  unfold QX
  rw [← List.flatMap_append, List.take_append_drop]
 rw [this, List.length_append]
 omega
def PlQ (l : List Wp) (id1 : Nat) (st1 : St) (e : AE) (fr' : Fr) (st' : St) : Prop := Keep st1 st' ∧ fr'.ds = [] ∧ ((e = AE.ret ∧ Fr.at fr' 2 = .str (S.ofList []) ∧ Fr.at fr' 3 = .bool false ∧ okP l = false) ∨ (e = AE.normal ∧ Fr.at fr' 1 = .ptr id1 0 ∧ okP l = true ∧ ∃ s, Fr.at fr' 4 = .str s ∧ s.toList = QX l))
def Qm (st : St) (x : V) (a : Int) : St := { ctr := st.ctr + 1, box := st.box.put st.ctr (.cells [x, .int .i64 a] 41 true (some 0)) }
theorem JaH (st : St) (x : V) (a : Int) : Keep st (Qm st x a) := (Keep.refl st).new _
theorem Ja0 (st : St) (x : V) (a : Int) : (Qm st x a).box.get st.ctr = some (.cells [x, .int .i64 a] 41 true (some 0)) := by unfold Qm; rw [Tr.get_put, if_pos rfl]
theorem JcP (st : St) (x : V) (a : Int) : st.ctr < (Qm st x a).ctr := Nat.lt_succ_self _
variable [Memo] [NY]
theorem JkO (gl : Gl) (st : St) (w : V) (l : List Wp) (hx : Wv st w l) (hl : l.length < 1000000) (ht : (QX l).length < 400000000) :
  ∃ v st', W Tryz.prog (.call gl 83 [w]) st = .call (.val v st') ∧ JlR l v ∧ Keep st st' := by
 obtain ⟨x, a, rfl, hx⟩ := hx
 have ox := hx.one
 have oi : ∀ k n, Ju (.int k n) = true := fun _ _ => rfl
 have lx := hx.len
 have vx := Jag x (hx.small hl)
 refine J3 (NY.no _ rfl rfl rfl _ _) Tryz.func83 rfl (by kernel_rfl) ?_
 repeat refine Does.seq ?_
 refine Does.region ?_
 simp [Jv, V.cells, ox, oi, JM]
 have hk1 := JaH st x a
 have b1 := Ja0 st x a
 have hct := JcP st x a
 rw [show ({ ctr := st.ctr + 1, box := st.box.put st.ctr (.cells [x, .int .i64 a] 41 true (some 0)) } : St) = Qm st x a from rfl]
 revert hk1 b1 hct
 generalize Qm st x a = st1
 generalize hid1 : st.ctr = id1
 intro hk1 b1 hct
 have f1 := wf0 id1
 have hx1 := hx.keep hk1
 have l1 := Jf (P := Tryz.prog) (off := 0) Jcn Jca b1 rfl
 have z33' := JQ
 repeat refine Does.seq ?_
 refine Does.region ?_
 simp
 repeat refine Does.seq ?_
 refine Does.region ?_
 simp [f1, l1, lx]
 refine Does.mono (Q := PlQ l id1 st1) ?loop ?tail
 case tail => as_aux_lemma =>
  rintro e fr' st' ⟨hk, hds, ⟨rfl, h2, h3, ho⟩ | ⟨rfl, h1, ho, s, h4, hs⟩⟩
  ·simp only [andThen]
   simp [hds, h2, h3]
   exact ⟨⟨_, by rw [ho]; rfl, fun h => by rw [ho] at h; cases h⟩, hk1.trans hk⟩
  ·simp only [andThen]
   repeat refine Does.seq ?_
   refine Does.draw (b := [0, 0, 2, 6, 14, 1, 63]) (l := [0, 1, 2, 3, 4, 5, 6]) (by kernel_rfl) (by kernel_rfl) (by kernel_rfl) ?_
   have hkt := hk.tick 7
   have l1' := Jf (P := Tryz.prog) (off := 0) Jcn Jca (show ({ ctr := st'.ctr + 7, box := st'.box } : St).box.get id1 = _ by rw [hkt.box _ hct]; exact b1) rfl
   have e0 : ∀ kk, Je Tryz.prog kk .gtr 3 (.int .i64 (l.length : Int)) (.int .i64 0) = some (.bool (decide (0 < l.length))) := fun kk => Jbd rfl
   have hd : decide (0 < l.length) = !decide (l.length = 0) := by
    by_cases h : l.length = 0
    ·simp [h]
    ·have : 0 < l.length := by omega
     simp [h, this]
   rw [hd] at e0
   generalize hD : decide (l.length = 0) = D at e0
   simp [JO, h1, h4, f1, l1', vx, lx, e0]
   refine Does.ret ?_
   simp [hds]
   exact ⟨⟨s, by rw [ho, hD]; rfl, fun _ => hs⟩, hk1.trans hkt⟩
 case loop => as_aux_lemma =>
  refine Does.block (Does.up l.length (fun i fr st' => Keep st1 st' ∧ fr.ds = [] ∧ Fr.at fr 1 = .ptr id1 0 ∧ Fr.at fr 8 = x ∧ Fr.at fr 9 = .int .i64 (l.length : Int) ∧ Fr.at fr 10 = .int .i64 (i : Int) ∧ i ≤ l.length ∧ okP (l.take i) = true ∧ ∃ s, Fr.at fr 4 = .str s ∧ s.toList = QX (l.take i)) 0 ?init ?JH ?step)
  case init => exact ⟨.refl st1, by simp, by simp, by simp, by simp, by simp, Nat.zero_le _, rfl, S.ofList [], by simp, S.toList_ofList _⟩
  case JH => exact fun i fr st' h => h.2.2.2.2.2.2.1
  case step =>
   rintro i fr st' ⟨hk, hds, h1, h8, h9, h10, hi, hok, s, h4, hs⟩
   have elen : ∀ kk, Je Tryz.prog kk .lss 3 (.int .i64 (i : Int)) (.int .i64 (l.length : Int)) = some (.bool (decide (i < l.length))) := fun kk => QN rfl
   repeat refine Does.seq ?_
   refine Does.region ?_
   by_cases hlt : i < l.length
   rotate_left
   ·rw [decide_eq_false hlt] at elen
    simp [h9, h10, elen]
    repeat refine Does.seq ?_
    refine Does.condF (by simp) ?_
    refine Does.exit ?_
    simp only [inBlock, if_true, andThen]
    rw [List.take_of_length_le (by omega)] at hok hs
    exact ⟨hk, by simp [hds], .inr ⟨rfl, by simp [h1], hok, s, by simp [h4], hs⟩⟩
   ·rw [decide_eq_true hlt] at elen
    obtain ⟨p, g1, g2⟩ := (hx1.keep hk).get hlt
    obtain ⟨q1, q2⟩ := JhR hlt
    have hnot := JjX hlt
    have hlen2 := Jdp l (i + 1)
    generalize l.getD i default = ex at g2 q1 q2 hnot
    rw [q2, List.length_append, S.len] at hlen2
    have hsn : s.n = (QX (l.take i)).length := by rw [← hs, S.len]
    have n1 := g2.loads.1
    have i1 := g1 .i64
    simp only [Wp.cells] at n1
    have hns := QS st' ex
    have w1 : IntKind.i64.wrap ((i : Int) + 1) = (i : Int) + 1 := Jp (by omega) (by omega)
    simp [h9, h10, elen]
    repeat refine Does.seq ?_
    refine Does.condT (by simp) ?_
    refine Does.skip ?_
    simp
    repeat refine Does.seq ?_
    refine Does.block ?_
    repeat refine Does.seq ?_
    refine Does.region ?_
    simp [h8, h10, i1, n1, Jv, z33', V.cells, Ju, JM, Qe, hns]
    have nk := Q3 st' ex
    have nb := Jai st' ex
    revert nk nb
    generalize Q2 st' ex = st2
    generalize st'.ctr = id4
    intro nk nb
    repeat refine Does.seq ?_
    refine Does.region ?_
    obtain ⟨pl0, pl1, pl2⟩ := QZ nb
    have t0 := pg0 id4 0
    have t1 := pg1 id4 0
    have t2 := pg2 id4 0
    simp only [Nat.zero_add] at t1 t2
    cases hv : ex.v with
    | true =>
     rw [hv] at pl0
     simp [t0, pl0]
     repeat refine Does.seq ?_
     refine Does.condT (by simp) ?_
     repeat refine Does.seq ?_
     refine Does.region ?_
     simp
     refine Does.ret ?_
     simp only [andThen, inBlock]
     exact ⟨hk.trans nk, by simp [hds], .inl ⟨rfl, by simp, by simp, hnot (by rw [hv]; rfl)⟩⟩
    | false =>
     rw [hv] at pl0
     cases hq : ex.q with
     | true =>
      rw [hq] at pl2
      simp [t0, t2, pl0, pl2]
      repeat refine Does.seq ?_
      refine Does.condT (by simp) ?_
      repeat refine Does.seq ?_
      refine Does.region ?_
      simp
      refine Does.ret ?_
      simp only [andThen, inBlock]
      exact ⟨hk.trans nk, by simp [hds], .inl ⟨rfl, by simp, by simp, hnot (by rw [hq]; simp)⟩⟩
     | false =>
      rw [hq] at pl2
      simp [t0, t2, pl0, pl2]
      repeat refine Does.seq ?_
      refine Does.condF (by simp) ?_
      refine Does.skip ?_
      simp
      refine Does.region ?_
      have hadd := JbI (P := Tryz.prog) (kk := false) (T := 9) (x := s) (y := ex.t) (by omega)
      have htl : (s.app ex.t).toList = QX (l.take (i + 1)) := by rw [S.toList_app, hs, q2]
      generalize s.app ex.t = s2 at hadd htl
      simp [h4, t1, pl1, isK, hadd]
      refine Does.region ?_
      simp [h10, Jq, w1]
      exact ⟨i + 1, by omega, hk.trans nk, hds, h1, h8, h9, by simp, by omega, by rw [q1, hok, hv, hq]; rfl, htl⟩
def JpB (l : List Wp) (id1 : Nat) (st1 : St) (e : AE) (fr' : Fr) (st' : St) : Prop := Keep st1 st' ∧ fr'.ds = [] ∧ ((e = AE.ret ∧ Fr.at fr' 2 = .str (S.ofList []) ∧ Fr.at fr' 3 = .bool false ∧ okP l = false) ∨ (e = AE.normal ∧ Fr.at fr' 1 = .ptr id1 0 ∧ okP l = true ∧ ∃ s, Fr.at fr' 4 = .str s ∧ s.toList = QX l))
theorem JkP (gl : Gl) (st : St) (w : V) (l : List Wp) (hx : Wv st w l) (hl : l.length < 1000000) (ht : (QX l).length < 400000000) :
  ∃ v st', W Tryz.prog (.call gl 92 [w]) st = .call (.val v st') ∧ JlR l v ∧ Keep st st' := by
 obtain ⟨x, a, rfl, hx⟩ := hx
 have ox := hx.one
 have oi : ∀ k n, Ju (.int k n) = true := fun _ _ => rfl
 have lx := hx.len
 have vx := Jag x (hx.small hl)
 refine J3 (NY.no _ rfl rfl rfl _ _) Tryz.func92 rfl (by kernel_rfl) ?_
 repeat refine Does.seq ?_
 refine Does.region ?_
 simp [Jv, V.cells, ox, oi, JM]
 have hk1 := JaH st x a
 have b1 := Ja0 st x a
 have hct := JcP st x a
 rw [show ({ ctr := st.ctr + 1, box := st.box.put st.ctr (.cells [x, .int .i64 a] 41 true (some 0)) } : St) = Qm st x a from rfl]
 revert hk1 b1 hct
 generalize Qm st x a = st1
 generalize hid1 : st.ctr = id1
 intro hk1 b1 hct
 have f1 := wf0 id1
 have hx1 := hx.keep hk1
 repeat refine Does.seq ?_
 refine Does.region ?_
 simp
 repeat refine Does.seq ?_
 refine Does.region ?_
 simp
 refine Does.mono (Q := JpB l id1 st1) ?loop ?tail
 case tail => as_aux_lemma =>
  rintro e fr' st' ⟨hk, hds, ⟨rfl, h2, h3, ho⟩ | ⟨rfl, h1, ho, s, h4, hs⟩⟩
  ·simp only [andThen]
   simp [hds, h2, h3]
   exact ⟨⟨_, by rw [ho]; rfl, fun h => by rw [ho] at h; cases h⟩, hk1.trans hk⟩
  ·simp only [andThen]
   repeat refine Does.seq ?_
   refine Does.draw (b := [0, 0, 2, 6, 14, 1, 63]) (l := [0, 1, 2, 3, 4, 5, 6]) (by kernel_rfl) (by kernel_rfl) (by kernel_rfl) ?_
   have hkt := hk.tick 7
   have l1' := Jf (P := Tryz.prog) (off := 0) Jcn Jca (show ({ ctr := st'.ctr + 7, box := st'.box } : St).box.get id1 = _ by rw [hkt.box _ hct]; exact b1) rfl
   have e0 : ∀ kk, Je Tryz.prog kk .gtr 3 (.int .i64 (l.length : Int)) (.int .i64 0) = some (.bool (decide (0 < l.length))) := fun kk => Jbd rfl
   have hd : decide (0 < l.length) = !decide (l.length = 0) := by
    by_cases h : l.length = 0
    ·simp [h]
    ·have : 0 < l.length := by omega
     simp [h, this]
   rw [hd] at e0
   generalize hD : decide (l.length = 0) = D at e0
   simp [JO, h1, h4, f1, l1', vx, lx, e0]
   refine Does.ret ?_
   simp [hds]
   exact ⟨⟨s, by rw [ho, hD]; rfl, fun _ => hs⟩, hk1.trans hkt⟩
 case loop => as_aux_lemma =>
  refine Does.block (Does.up l.length (fun i fr st' => Keep st1 st' ∧ fr.ds = [] ∧ Fr.at fr 1 = .ptr id1 0 ∧ Fr.at fr 5 = .int .i64 (i : Int) ∧ i ≤ l.length ∧ okP (l.take i) = true ∧ ∃ s, Fr.at fr 4 = .str s ∧ s.toList = QX (l.take i)) 0 ?init ?JH ?step)
  case init => exact ⟨.refl st1, by simp, by simp, by simp, Nat.zero_le _, rfl, S.ofList [], by simp, S.toList_ofList _⟩
  case JH => exact fun i fr st' h => h.2.2.2.2.1
  case step =>
   rintro i fr st' ⟨hk, hds, h1, h5, hi, hok, s, h4, hs⟩
   have elen : ∀ kk, Je Tryz.prog kk .lss 3 (.int .i64 (i : Int)) (.int .i64 (l.length : Int)) = some (.bool (decide (i < l.length))) := fun kk => QN rfl
   have l1' := Jf (P := Tryz.prog) (off := 0) Jcn Jca (show st'.box.get id1 = _ by rw [hk.box _ hct]; exact b1) rfl
   repeat refine Does.seq ?_
   refine Does.region ?_
   by_cases hlt : i < l.length
   rotate_left
   ·rw [decide_eq_false hlt] at elen
    simp [h1, h5, f1, l1', lx, elen]
    repeat refine Does.seq ?_
    refine Does.condF (by simp) ?_
    refine Does.exit ?_
    simp only [inBlock, if_true, andThen]
    rw [List.take_of_length_le (by omega)] at hok hs
    exact ⟨hk, by simp [hds], .inr ⟨rfl, by simp [h1], hok, s, by simp [h4], hs⟩⟩
   ·rw [decide_eq_true hlt] at elen
    obtain ⟨p, g1, g2⟩ := (hx1.keep hk).get hlt
    obtain ⟨q1, q2⟩ := JhR hlt
    have hnot := JjX hlt
    have hlen2 := Jdp l (i + 1)
    generalize l.getD i default = ex at g2 q1 q2 hnot
    rw [q2, List.length_append, S.len] at hlen2
    have hsn : s.n = (QX (l.take i)).length := by rw [← hs, S.len]
    obtain ⟨_, ⟨p0, m0, n0⟩, ⟨p1, m1, n1⟩, ⟨p2, m2, n2⟩⟩ := g2.loads
    have i1 := g1 .i64
    have w1 : IntKind.i64.wrap ((i : Int) + 1) = (i : Int) + 1 := Jp (by omega) (by omega)
    simp [h1, h5, f1, l1', lx, elen]
    repeat refine Does.seq ?_
    refine Does.condT (by simp) ?_
    refine Does.skip ?_
    simp
    repeat refine Does.seq ?_
    refine Does.block ?_
    repeat refine Does.seq ?_
    refine Does.region ?_
    cases hv : ex.v with
    | true =>
     rw [hv] at n0
     simp [h1, h5, f1, l1', i1, m0, n0]
     repeat refine Does.seq ?_
     refine Does.condT (by simp) ?_
     repeat refine Does.seq ?_
     refine Does.region ?_
     simp
     refine Does.ret ?_
     simp only [andThen, inBlock]
     exact ⟨hk, by simp [hds], .inl ⟨rfl, by simp, by simp, hnot (by rw [hv]; rfl)⟩⟩
    | false =>
     rw [hv] at n0
     cases hq : ex.q with
     | true =>
      rw [hq] at n2
      simp [h1, h5, f1, l1', i1, m0, n0, m2, n2]
      repeat refine Does.seq ?_
      refine Does.condT (by simp) ?_
      repeat refine Does.seq ?_
      refine Does.region ?_
      simp
      refine Does.ret ?_
      simp only [andThen, inBlock]
      exact ⟨hk, by simp [hds], .inl ⟨rfl, by simp, by simp, hnot (by rw [hq]; simp)⟩⟩
     | false =>
      rw [hq] at n2
      simp [h1, h5, f1, l1', i1, m0, n0, m2, n2]
      repeat refine Does.seq ?_
      refine Does.condF (by simp) ?_
      refine Does.skip ?_
      simp
      refine Does.region ?_
      have hadd := JbI (P := Tryz.prog) (kk := false) (T := 9) (x := s) (y := ex.t) (by omega)
      have htl : (s.app ex.t).toList = QX (l.take (i + 1)) := by rw [S.toList_app, hs, q2]
      generalize s.app ex.t = s2 at hadd htl
      simp [h1, h4, h5, f1, l1', i1, m1, n1, isK, hadd]
      refine Does.region ?_
      simp [h5, Jq, w1]
      exact ⟨i + 1, by omega, hk, hds, h1, by simp, by omega, by rw [q1, hok, hv, hq]; rfl, htl⟩
end Go.Vm
namespace Go.Vm
open Go Go.Proofs Go.Sy
set_option maxRecDepth 100000
attribute [local simp] Oks J8 Jj Jo vop Js Jy ev evs toV andThen inBlock Jn Fr.dsTo Fr.glTo Fr.toNone Jk Jl Jm J6 Jc Jz Jw V.undef JU J9 Qk
def Jad (st st' : St) : Prop := st' = st
def Jb6 (s : S) (l : List S) : Bool := decide (s.toList ∈ l.map S.toList)
theorem Jen {s : S} {l : List S} {i : Nat} (hi : i < l.length) : Jb6 s (l.take (i + 1)) = (Jb6 s (l.take i) || s.same (l.getD i ⟨0, 0⟩)) := by
 have : l.take (i + 1) = l.take i ++ [l.getD i ⟨0, 0⟩] := by
  rw [List.take_add_one, List.getD_eq_getElem?_getD, List.getElem?_eq_getElem hi]; rfl
 rw [this]
 simp only [Jb6, List.map_append, List.mem_append, List.map_cons, List.map_nil, List.mem_singleton, S.same_eq]
 rw [Bool.eq_iff_iff]
 simp
theorem Jg3 {s : S} {l : List S} {i : Nat} (h : Jb6 s (l.take i) = true) : Jb6 s l = true := by
 simp only [Jb6, decide_eq_true_eq] at h ⊢
 rw [List.map_take] at h
 exact List.mem_of_mem_take h
theorem JjY {s : S} {l : List S} {i : Nat} (hi : i < l.length) (h : s.same (l.getD i ⟨0, 0⟩) = true) : Jb6 s l = true :=
 Jg3 (i := i + 1) (by rw [Jen hi, h]; simp)
theorem JkQ (s u : S) : s.same u = u.same s := by
 rw [S.same_eq, S.same_eq, Bool.eq_iff_iff, beq_iff_eq, beq_iff_eq]; exact eq_comm
def resL : List (List UInt8) := [[105, 102], [116, 104, 101, 110], [101, 108, 105, 102], [101, 108, 115, 101], [102, 105], [119, 104, 105, 108, 101], [117, 110, 116, 105, 108], [100, 111], [100, 111, 110, 101], [102, 111, 114], [105, 110], [99, 97, 115, 101], [101, 115, 97, 99], [102, 117, 110, 99, 116, 105, 111, 110], [115, 101, 108, 101, 99, 116], [116, 105, 109, 101], [99, 111, 112, 114, 111, 99], [91, 91], [33], [123], [125]]
def nevL : List (List UInt8) := [[99, 97, 115, 101], [102, 117, 110, 99, 116, 105, 111, 110], [115, 101, 108, 101, 99, 116], [116, 105, 109, 101], [99, 111, 112, 114, 111, 99], [91, 91]]
def supL : List (List UInt8) := [[105, 102], [116, 104, 101, 110], [101, 108, 105, 102], [101, 108, 115, 101], [102, 105], [119, 104, 105, 108, 101], [117, 110, 116, 105, 108], [100, 111], [100, 111, 110, 101], [102, 111, 114], [105, 110], [101, 115, 97, 99], [33], [123], [125]]
theorem JpC : Qc Tryz.prog 31 21 [(0, .str (S.ofList [105, 102])), (1, .str (S.ofList [116, 104, 101, 110])), (2, .str (S.ofList [101, 108, 105, 102])), (3, .str (S.ofList [101, 108, 115, 101])), (4, .str (S.ofList [102, 105])), (5, .str (S.ofList [119, 104, 105, 108, 101])), (6, .str (S.ofList [117, 110, 116, 105, 108])), (7, .str (S.ofList [100, 111])), (8, .str (S.ofList [100, 111, 110, 101])), (9, .str (S.ofList [102, 111, 114])), (10, .str (S.ofList [105, 110])), (11, .str (S.ofList [99, 97, 115, 101])), (12, .str (S.ofList [101, 115, 97, 99])), (13, .str (S.ofList [102, 117, 110, 99, 116, 105, 111, 110])), (14, .str (S.ofList [115, 101, 108, 101, 99, 116])), (15, .str (S.ofList [116, 105, 109, 101])), (16, .str (S.ofList [99, 111, 112, 114, 111, 99])), (17, .str (S.ofList [91, 91])), (18, .str (S.ofList [33])), (19, .str (S.ofList [123])), (20, .str (S.ofList [125]))] = some ((resL.map S.ofList).map .str, 9, 1) := by kernel_rfl
theorem bs6 : Qc Tryz.prog 31 6 [(0, .str (S.ofList [99, 97, 115, 101])), (1, .str (S.ofList [102, 117, 110, 99, 116, 105, 111, 110])), (2, .str (S.ofList [115, 101, 108, 101, 99, 116])), (3, .str (S.ofList [116, 105, 109, 101])), (4, .str (S.ofList [99, 111, 112, 114, 111, 99])), (5, .str (S.ofList [91, 91]))] = some ((nevL.map S.ofList).map .str, 9, 1) := by kernel_rfl
theorem JpD : Qc Tryz.prog 31 15 [(0, .str (S.ofList [105, 102])), (1, .str (S.ofList [116, 104, 101, 110])), (2, .str (S.ofList [101, 108, 105, 102])), (3, .str (S.ofList [101, 108, 115, 101])), (4, .str (S.ofList [102, 105])), (5, .str (S.ofList [119, 104, 105, 108, 101])), (6, .str (S.ofList [117, 110, 116, 105, 108])), (7, .str (S.ofList [100, 111])), (8, .str (S.ofList [100, 111, 110, 101])), (9, .str (S.ofList [102, 111, 114])), (10, .str (S.ofList [105, 110])), (11, .str (S.ofList [101, 115, 97, 99])), (12, .str (S.ofList [33])), (13, .str (S.ofList [123])), (14, .str (S.ofList [125]))] = some ((supL.map S.ofList).map .str, 9, 1) := by kernel_rfl
theorem Jg4 (s : S) (L : List (List UInt8)) : Jb6 s (L.map S.ofList) = decide (s.toList ∈ L) := by
 unfold Jb6
 rw [List.map_map]
 congr 2
 have : S.toList ∘ S.ofList = id := by funext l; exact S.toList_ofList l
 rw [this, List.map_id]
theorem Jnk (t : List UInt8) : decide (t ∈ resL) = (decide (t ∈ nevL) || decide (t ∈ supL)) := by
 rw [Bool.eq_iff_iff]
 simp only [Bool.or_eq_true, decide_eq_true_eq]
 constructor
 ·intro h
  have h3 : ∀ u ∈ resL, u ∈ nevL ∨ u ∈ supL := by decide +kernel
  exact h3 t h
 ·have h1 : ∀ u ∈ nevL, u ∈ resL := by decide +kernel
  have h2 : ∀ u ∈ supL, u ∈ resL := by decide +kernel
  rintro (h | h)
  ·exact h1 t h
  ·exact h2 t h
def Ja5 (st : St) (l : List S) : St := { ctr := st.ctr + 1, box := st.box.put st.ctr (.cells (l.map .str) 9 true (some 0)) }
theorem Jb7 (st : St) (l : List S) : Keep st (Ja5 st l) := (Keep.refl st).new _
theorem JcQ (st : St) (l : List S) : Vw (Ja5 st l) (.ms st.ctr 0 l.length 1 (some l.length)) l := by
 refine .ms st.ctr 0 (some l.length) (l.map .str) 9 true (some 0) l (by unfold Ja5; rw [Tr.get_put, if_pos rfl]) (fun i hi => ?_) (by simp) (Nat.lt_succ_self _) (by simp [JbM, Jaq])
 simp [List.getD_eq_getElem?_getD, hi]
variable [Memo] [NY]
theorem JiR (gl : Gl) (st : St) (x : V) (l : List S) (s : S) (hx : Vw st x l) (hl : l.length < 1000000) :
  ∃ v st', W Tryz.prog (.call gl 78 [x, .str s]) st = .call (.val v st') ∧ st' = st ∧ ∃ r : Int, v = .int .i64 r ∧ decide (0 ≤ r) = Jb6 s l := by
 have lx := hx.len Tryz.underlying31
 refine J3 (NY.no _ rfl rfl rfl _ _) Tryz.func78 rfl (by kernel_rfl) ?_
 repeat refine Does.seq ?_
 refine Does.region ?_
 simp
 repeat refine Does.seq ?_
 refine Does.region ?_
 simp [lx]
 refine Does.mono (Q := fun e fr' st' => Jad st st' ∧ fr'.ds = [] ∧ ((e = AE.ret ∧ (∃ r : Nat, Fr.at fr' 4 = .int .i64 (r : Int)) ∧ Jb6 s l = true) ∨ (e = AE.normal ∧ Jb6 s l = false))) ?loop ?tail
 case tail =>
  rintro e fr' st' ⟨rfl, hds, ⟨rfl, ⟨r, h4⟩, hm⟩ | ⟨rfl, hm⟩⟩
  ·simp [hds, h4, hm]
  ·simp only [andThen]
   repeat refine Does.seq ?_
   refine Does.region ?_
   simp
   refine Does.ret ?_
   simp [hds, hm]
 case loop =>
  refine Does.block (Does.up l.length (fun i fr st' => Jad st st' ∧ fr.ds = [] ∧ Fr.at fr 0 = x ∧ Fr.at fr 1 = .str s ∧ Fr.at fr 7 = .int .i64 (l.length : Int) ∧ Fr.at fr 8 = .int .i64 (i : Int) ∧ i ≤ l.length ∧ Jb6 s (l.take i) = false) 0 ?init ?JH ?step)
  case init => exact ⟨rfl, by simp, by simp, by simp, by simp, by simp, Nat.zero_le _, by simp [Jb6]⟩
  case JH => exact fun i fr st' h => h.2.2.2.2.2.2.1
  case step =>
   rintro i fr st' ⟨rfl, hds, h0, h1, h7, h8, hi, hm⟩
   have elen : ∀ kk, Je Tryz.prog kk .lss 3 (.int .i64 (i : Int)) (.int .i64 (l.length : Int)) = some (.bool (decide (i < l.length))) := fun kk => QN rfl
   repeat refine Does.seq ?_
   refine Does.region ?_
   by_cases hlt : i < l.length
   rotate_left
   ·rw [decide_eq_false hlt] at elen
    simp [h7, h8, elen]
    repeat refine Does.seq ?_
    refine Does.condF (by simp) ?_
    refine Does.exit ?_
    simp only [inBlock, if_true, andThen]
    rw [List.take_of_length_le (by omega)] at hm
    exact ⟨rfl, by simp [hds], .inr ⟨trivial, hm⟩⟩
   ·rw [decide_eq_true hlt] at elen
    obtain ⟨p, g1, g2⟩ := hx.get (k := .i64) Tryz.underlying31 sz9 sa9 hlt
    have hq := Jen (s := s) hlt
    have ht := JjY (s := s) hlt
    generalize l.getD i ⟨0, 0⟩ = ex at g2 hq ht
    have w1 : IntKind.i64.wrap ((i : Int) + 1) = (i : Int) + 1 := Jp (by omega) (by omega)
    simp [h7, h8, elen]
    repeat refine Does.seq ?_
    refine Does.condT (by simp) ?_
    refine Does.skip ?_
    simp
    repeat refine Does.seq ?_
    refine Does.block ?_
    repeat refine Does.seq ?_
    refine Does.region ?_
    simp [h8]
    repeat refine Does.seq ?_
    refine Does.region ?_
    have hb : ∀ kk, Je Tryz.prog kk .eql 9 (.str s) (.str ex) = some (.bool (s.same ex)) := fun kk => Ji
    generalize s.same ex = b at hb hq ht
    simp [h0, h1, g1, g2, hb]
    repeat refine Does.seq ?_
    cases b with
    | true =>
     refine Does.condT (by simp) ?_
     repeat refine Does.seq ?_
     refine Does.region ?_
     simp
     refine Does.ret ?_
     simp only [andThen, inBlock]
     exact ⟨rfl, by simp [hds], .inl ⟨trivial, ⟨i, by simp⟩, ht rfl⟩⟩
    | false =>
     refine Does.condF (by simp) ?_
     refine Does.skip ?_
     simp
     refine Does.region ?_
     simp [h8, Jq, w1]
     exact ⟨i + 1, by omega, rfl, hds, h0, h1, h7, by simp, by omega, by rw [hq, hm]; rfl⟩
theorem Jgd (gl : Gl) (st : St) (x : V) (l : List S) (s : S) (hx : Vw st x l) (hl : l.length < 1000000) :
  W Tryz.prog (.call gl 47 [x, .str s]) st = .call (.val (.bool (Jb6 s l)) st) := by
 have hk : Jg Tryz.prog 78 = true := by kernel_rfl
 obtain ⟨v, st', hc, rfl, r, rfl, hr⟩ := JiR gl st x l s hx hl
 have hc := Jh hc
 have e0 : ∀ kk, Je Tryz.prog kk .geq 3 (.int .i64 r) (.int .i64 0) = some (.bool (decide (r ≥ 0))) := fun kk => JaR
 rw [show decide (r ≥ 0) = Jb6 s l from hr] at e0
 refine Qg (NY.no _ rfl rfl rfl _ _) Tryz.func47 rfl (by kernel_rfl) ?_
 repeat refine Does.seq ?_
 refine Does.region ?_
 simp
 repeat refine Does.seq ?_
 refine Does.region ?_
 simp [Ja hk, hc, e0]
 refine Does.ret ?_
 simp []
theorem JhS (gl : Gl) (st : St) (x : V) (l : List S) (s : S) (hx : Vw st x l) (hl : l.length < 1000000) :
  W Tryz.prog (.call gl 116 [.str s, x]) st = .call (.val (.bool (Jb6 s l)) st) := by
 have lx := hx.len Tryz.underlying31
 refine Qg (NY.no _ rfl rfl rfl _ _) Tryz.func116 rfl (by kernel_rfl) ?_
 repeat refine Does.seq ?_
 refine Does.region ?_
 simp
 repeat refine Does.seq ?_
 refine Does.region ?_
 simp
 refine Does.mono (Q := fun e fr' st' => Jad st st' ∧ fr'.ds = [] ∧ ((e = AE.ret ∧ Fr.at fr' 4 = .bool true ∧ Jb6 s l = true) ∨ (e = AE.normal ∧ Jb6 s l = false))) ?loop ?tail
 case tail =>
  rintro e fr' st' ⟨rfl, hds, ⟨rfl, h4, hm⟩ | ⟨rfl, hm⟩⟩
  ·simp [hds, h4, hm]
  ·simp only [andThen]
   repeat refine Does.seq ?_
   refine Does.region ?_
   simp
   refine Does.ret ?_
   simp [hds, hm]
 case loop =>
  refine Does.block (Does.up l.length (fun i fr st' => Jad st st' ∧ fr.ds = [] ∧ Fr.at fr 0 = .str s ∧ Fr.at fr 1 = x ∧ Fr.at fr 5 = .int .i64 (i : Int) ∧ i ≤ l.length ∧ Jb6 s (l.take i) = false) 0 ?init ?JH ?step)
  case init => exact ⟨rfl, by simp, by simp, by simp, by simp, Nat.zero_le _, by simp [Jb6]⟩
  case JH => exact fun i fr st' h => h.2.2.2.2.2.1
  case step =>
   rintro i fr st' ⟨rfl, hds, h0, h1, h5, hi, hm⟩
   have elen : ∀ kk, Je Tryz.prog kk .lss 3 (.int .i64 (i : Int)) (.int .i64 (l.length : Int)) = some (.bool (decide (i < l.length))) := fun kk => QN rfl
   repeat refine Does.seq ?_
   refine Does.region ?_
   by_cases hlt : i < l.length
   rotate_left
   ·rw [decide_eq_false hlt] at elen
    simp [h1, h5, lx, elen]
    repeat refine Does.seq ?_
    refine Does.condF (by simp) ?_
    refine Does.exit ?_
    simp only [inBlock, if_true, andThen]
    rw [List.take_of_length_le (by omega)] at hm
    exact ⟨rfl, by simp [hds], .inr ⟨trivial, hm⟩⟩
   ·rw [decide_eq_true hlt] at elen
    obtain ⟨p, g1, g2⟩ := hx.get (k := .i64) Tryz.underlying31 sz9 sa9 hlt
    have hq := Jen (s := s) hlt
    have ht := JjY (s := s) hlt
    generalize l.getD i ⟨0, 0⟩ = ex at g2 hq ht
    have w1 : IntKind.i64.wrap ((i : Int) + 1) = (i : Int) + 1 := Jp (by omega) (by omega)
    simp [h1, h5, lx, elen]
    repeat refine Does.seq ?_
    refine Does.condT (by simp) ?_
    refine Does.skip ?_
    simp
    repeat refine Does.seq ?_
    refine Does.block ?_
    repeat refine Does.seq ?_
    refine Does.region ?_
    have hb : ∀ kk, Je Tryz.prog kk .eql 9 (.str ex) (.str s) = some (.bool (s.same ex)) := fun kk => by rw [JkQ]; exact Ji
    generalize s.same ex = b at hb hq ht
    simp [h0, h1, h5, g1, g2, hb]
    repeat refine Does.seq ?_
    cases b with
    | true =>
     refine Does.condT (by simp) ?_
     repeat refine Does.seq ?_
     refine Does.region ?_
     simp
     refine Does.ret ?_
     simp only [andThen, inBlock]
     exact ⟨rfl, by simp [hds], .inl ⟨trivial, by simp, ht rfl⟩⟩
    | false =>
     refine Does.condF (by simp) ?_
     refine Does.skip ?_
     simp
     refine Does.region ?_
     simp [h5, Jq, w1]
     exact ⟨i + 1, by omega, rfl, hds, h0, h1, by simp, by omega, by rw [hq, hm]; rfl⟩
theorem JkR (gl : Gl) (st : St) (s : S) :
  ∃ v st', W Tryz.prog (.call gl 85 [.str s]) st = .call (.val v st') ∧ v = .bool (decide (s.toList ∈ resL)) ∧ Keep st st' := by
 have hk42 : Jg Tryz.prog 47 = true := by kernel_rfl
 have hc := Jh (Jgd gl (Ja5 st (resL.map S.ofList)) (.ms st.ctr 0 21 1 (some 21)) (resL.map S.ofList) s (JcQ st _) (by rw [List.length_map]; show (21 : Nat) < 1000000; omega))
 rw [Jg4] at hc
 have hb := JpC
 have hk := Jb7 st (resL.map S.ofList)
 have ha := JgY (resL.map S.ofList)
 unfold Ja5 at hk hc
 generalize resL.map S.ofList = L at hb hk hc ha
 generalize decide (s.toList ∈ resL) = r at hc
 refine J3 (NY.no _ rfl rfl rfl _ _) Tryz.func85 rfl (by kernel_rfl) ?_
 repeat refine Does.seq ?_
 refine Does.region ?_
 simp
 repeat refine Does.seq ?_
 refine Does.region ?_
 simp [Jv, JM, Jx, hb, ha, Ja hk42, hc]
 refine Does.ret ?_
 simp [hk]
theorem JlS (gl : Gl) (st : St) (s : S) :
  ∃ v st', W Tryz.prog (.call gl 115 [.str s]) st = .call (.val v st') ∧ v = .bool (decide (s.toList ∈ nevL)) ∧ Keep st st' := by
 have hk46 : Jg Tryz.prog 116 = true := by kernel_rfl
 have hc := Jh (JhS gl (Ja5 st (nevL.map S.ofList)) (.ms st.ctr 0 6 1 (some 6)) (nevL.map S.ofList) s (JcQ st _) (by rw [List.length_map]; show (6 : Nat) < 1000000; omega))
 rw [Jg4] at hc
 have hb := bs6
 have hk := Jb7 st (nevL.map S.ofList)
 have ha := JgY (nevL.map S.ofList)
 unfold Ja5 at hk hc
 generalize nevL.map S.ofList = L at hb hk hc ha
 generalize decide (s.toList ∈ nevL) = r at hc
 refine J3 (NY.no _ rfl rfl rfl _ _) Tryz.func115 rfl (by kernel_rfl) ?_
 repeat refine Does.seq ?_
 refine Does.region ?_
 simp
 repeat refine Does.seq ?_
 refine Does.region ?_
 simp [Jv, JM, Jx, hb, ha, Ja hk46, hc]
 refine Does.ret ?_
 simp [hk]
theorem JkS (gl : Gl) (st : St) (s : S) :
  ∃ v st', W Tryz.prog (.call gl 94 [.str s]) st = .call (.val v st') ∧ v = .bool (decide (s.toList ∈ resL)) ∧ Keep st st' := by
 have hk46 : Jg Tryz.prog 116 = true := by kernel_rfl
 have hk45 : Jg Tryz.prog 115 = true := by kernel_rfl
 rw [Jnk]
 obtain ⟨v, st1, h1, rfl, hk1⟩ := JlS gl st s
 have h1 := Jh h1
 have hc := Jh (JhS gl (Ja5 st1 (supL.map S.ofList)) (.ms st1.ctr 0 15 1 (some 15)) (supL.map S.ofList) s (JcQ st1 _) (by rw [List.length_map]; show (15 : Nat) < 1000000; omega))
 rw [Jg4] at hc
 have hb := JpD
 have hk := Jb7 st1 (supL.map S.ofList)
 have ha := JgY (supL.map S.ofList)
 unfold Ja5 at hk hc
 generalize supL.map S.ofList = L at hb hk hc ha
 generalize decide (s.toList ∈ nevL) = q at h1
 generalize decide (s.toList ∈ supL) = r at hc
 refine J3 (NY.no _ rfl rfl rfl _ _) Tryz.func94 rfl (by kernel_rfl) ?_
 repeat refine Does.seq ?_
 refine Does.region ?_
 simp
 repeat refine Does.seq ?_
 refine Does.region ?_
 cases q with
 | true =>
  simp [Ja hk45, h1]
  refine Does.ret ?_
  simp [hk1]
 | false =>
  simp [Jv, JM, Jx, hb, ha, Ja hk46, Ja hk45, h1, hc]
  refine Does.ret ?_
  simp [hk1.trans hk]
end Go.Vm
namespace Go.Vm
open Go Go.Proofs Go.Sy
set_option maxRecDepth 100000
attribute [local simp] Oks J8 Jj Jo vop Js Jy ev evs toV andThen inBlock Jn Fr.dsTo Fr.glTo Fr.toNone Jk Jl Jm J6 Jc Jz Jw V.undef JU J9 Qk
theorem Jnl {ks : List Pk} {i : Nat} {p : Pk} (h : ks[i]? = some p) : Je4 (Jak ks i) (ks.drop i) = (Jbh p (Jak ks i) ks[i + 1]? && Je4 (Jak ks (i + 1)) (ks.drop (i + 1))) := by
 have hi : i < ks.length := (List.getElem?_eq_some_iff.1 h).1
 have hd : ks.drop i = p :: ks.drop (i + 1) := by
  rw [List.drop_eq_getElem_cons hi]
  rw [List.getElem?_eq_getElem hi] at h
  rw [Option.some.inj h]
 rw [hd, Je4, show Jak ks (i + 1) = some p from h]
 congr 2
 rw [← List.head?_drop]
theorem JkT (ks : List Pk) {i : Nat} (hi : i ≤ ks.length) : (Jak ks i).isNone = decide (i = 0) := by
 cases i with
 | zero => rfl
 | succ i =>
  have : i < ks.length := by omega
  simp [Jak, this]
def FI (gl : Gl) (id1 i : Nat) (fr : Fr) : Prop := fr.ds = [] ∧ fr.gl = gl ∧ Fr.at fr 1 = .ptr id1 0 ∧ Fr.at fr 3 = .int .i64 (i : Int)
def FJ (gl : Gl) (id1 id4 i : Nat) (fr : Fr) : Prop := FI gl id1 i fr ∧ Fr.at fr 4 = .ptr id4 0
def JpE (st1 : St) (C : Bool) (e : AE) (fr' : Fr) (st' : St) : Prop := Keep st1 st' ∧ fr'.ds = [] ∧ ((e = AE.ret ∧ Fr.at fr' 2 = .bool false ∧ C = false) ∨ (e = AE.normal ∧ C = true))
def JpF (gl : Gl) (id1 i : Nat) (st2 : St) (ok : Bool) (e : AE) (fr' : Fr) (st' : St) : Prop := (e = AE.ret ∧ ok = false ∧ fr'.ds = [] ∧ Fr.at fr' 2 = .bool false ∧ Keep st2 st') ∨ (e = AE.normal ∧ ok = true ∧ FI gl id1 i fr' ∧ Keep st2 st')
def Jnm (gl : Gl) (id1 id4 i k : Nat) (b : Bool) (st : St) (e : AE) (fr' : Fr) (st' : St) : Prop := e = AE.normal ∧ FJ gl id1 id4 i fr' ∧ Fr.at fr' k = .bool b ∧ Keep st st'
def JdA (q : Bool) (l : List UInt8) (n : Nat) (ok : Bool) : Prop := (l.take n).all (fun c => !Go.Sy.badC q c) = ok
def JpG (gl : Gl) (id1 id4 i : Nat) (ok : Bool) (st : St) (e : AE) (fr' : Fr) (st' : St) : Prop := Jad st st' ∧ ((e = AE.ret ∧ ok = false ∧ fr'.ds = [] ∧ Fr.at fr' 2 = .bool false) ∨ (e = AE.normal ∧ ok = true ∧ FJ gl id1 id4 i fr'))
theorem JkU (q : Bool) (l : List UInt8) : JdA q l 0 true := rfl
theorem JlT {q : Bool} {l : List UInt8} {n : Nat} {b : Bool} (h : JdA q l n b) (hn : l.length ≤ n) : l.all (fun c => !Go.Sy.badC q c) = b := by
 unfold JdA at h; rwa [List.take_of_length_le hn] at h
theorem JkV {q : Bool} {s : S} {n : Nat} (h : JdA q s.toList n true) (hn : n < s.n) (hb : Go.Sy.badC q (UInt8.ofNat (s.at n)) = false) : JdA q s.toList (n + 1) true := by
 unfold JdA at h ⊢
 rw [JdP hn, h, hb]; rfl
theorem JlU {q : Bool} {s : S} {n : Nat} (hn : n < s.n) (hb : Go.Sy.badC q (UInt8.ofNat (s.at n)) = true) : s.toList.all (fun c => !Go.Sy.badC q c) = false :=
 JgZ hn (by rw [hb]; rfl)
theorem JpH {ex : Wp} {pv nx : Option Pk} (hv : ex.v = true) : Jbh ex.key pv nx = Jau ex.t.toList := by
 unfold Jbh; rw [if_pos (show ex.key.1 = true from hv)]; rfl
theorem JpI {ex : Wp} {pv nx : Option Pk} (hv : ex.v = false) (h : (!ex.q && ex.t.toList.isEmpty) = true) : Jbh ex.key pv nx = false := by
 unfold Jbh; rw [if_neg (by rw [show ex.key.1 = ex.v from rfl, hv]; decide)]
 unfold Jdi
 rw [show ex.key.2.2 = ex.q from rfl, show ex.key.2.1 = ex.t.toList from rfl]
 cases hq : ex.q <;> simp_all
theorem JpJ {ex : Wp} {pv nx : Option Pk} (hv : ex.v = false) (h : ex.t.toList.all (fun c => !Go.Sy.badC ex.q c) = false) : Jbh ex.key pv nx = false := by
 unfold Jbh; rw [if_neg (by rw [show ex.key.1 = ex.v from rfl, hv]; decide)]
 unfold Jdi
 rw [show ex.key.2.2 = ex.q from rfl, show ex.key.2.1 = ex.t.toList from rfl, h]
 simp
theorem JpK {ex : Wp} {pv nx : Option Pk} (hv : ex.v = false) (h : (!ex.q && ex.t.toList.isEmpty) = false) (h2 : ex.t.toList.all (fun c => !Go.Sy.badC ex.q c) = true) :
  Jbh ex.key pv nx = (!(pv.isNone && !ex.q && (ex.t.toList.head? == some 35 || ex.t.toList.head? == some 126)) && !Jd3 pv ex.key && !(ex.q && ex.t.toList.isEmpty && (Ja2 pv || Ja2 nx))) := by
 unfold Jbh; rw [if_neg (by rw [show ex.key.1 = ex.v from rfl, hv]; decide)]
 unfold Jdi
 rw [show ex.key.2.2 = ex.q from rfl, show ex.key.2.1 = ex.t.toList from rfl, h2]
 have : (ex.q || !ex.t.toList.isEmpty) = true := by
  revert h; cases ex.q <;> cases ex.t.toList.isEmpty <;> simp
 rw [this]
 simp only [Bool.true_and]
theorem Jnn (q : Bool) (c : Nat) (hc : c < 256) : Go.Sy.badC q (UInt8.ofNat c) = (decide (c = 0) || (!q && (sp18.elem (UInt8.ofNat c) || decide (c = 96)))) := by
 unfold Go.Sy.badC
 have h0 : (UInt8.ofNat c == 0) = decide (c = 0) := by
  rw [Bool.eq_iff_iff, beq_iff_eq, decide_eq_true_iff]
  exact JbA (b := 0) hc (by decide)
 have h1 : (UInt8.ofNat c == 96) = decide (c = 96) := by
  rw [Bool.eq_iff_iff, beq_iff_eq, decide_eq_true_iff]
  exact JbA (b := 96) hc (by decide)
 rw [h0, h1]
theorem JjZ {s : S} (h : 0 < s.n) (b : Nat) (hb : b < 256) : (s.toList.head? == some (UInt8.ofNat b)) = decide (s.at 0 = b) := by
 have := S.drop_at s h
 rw [List.drop_zero] at this
 rw [this, List.head?_cons, Bool.eq_iff_iff, beq_iff_eq, decide_eq_true_iff, Option.some_inj]
 exact JbA (s.at_lt 0) hb
theorem Jgv (s : S) : s.toList.isEmpty = decide (s.n = 0) := by
 rw [Bool.eq_iff_iff, List.isEmpty_iff, decide_eq_true_iff, ← List.length_eq_zero_iff, S.len]
theorem Jo3 : (S.ofList sp18).toList = sp18 := S.toList_ofList _
variable [Memo] [NY]
set_option maxHeartbeats 4000000 in
theorem Jg5 (gl : Gl) (st : St) (w : V) (l : List Wp) (hx : Wv st w l) (hl : l.length < 1000000) (hs : ∀ p ∈ l, p.t.n < 4000000000000000000) :
  ∃ v st', W Tryz.prog (.call gl 95 [w]) st = .call (.val v st') ∧ v = .bool (JbV (l.map Wp.key)) ∧ Keep st st' := by
 obtain ⟨x, a, rfl, hx⟩ := hx
 have hk36 : Jg Tryz.prog 96 = true := by kernel_rfl
 have hk47 : Jg Tryz.prog 97 = true := by kernel_rfl
 have ox := hx.one
 have oi : ∀ k n, Ju (.int k n) = true := fun _ _ => rfl
 have lx := hx.len
 have z33' := JQ
 refine J3 (NY.no _ rfl rfl rfl _ _) Tryz.func95 rfl (by kernel_rfl) ?_
 repeat refine Does.seq ?_
 refine Does.region ?_
 simp [Jv, V.cells, ox, oi, JM]
 have hk1 := JaH st x a
 have b1 := Ja0 st x a
 have hct := JcP st x a
 rw [show ({ ctr := st.ctr + 1, box := st.box.put st.ctr (.cells [x, .int .i64 a] 41 true (some 0)) } : St) = Qm st x a from rfl]
 revert hk1 b1 hct
 generalize Qm st x a = st1
 generalize hid1 : st.ctr = id1
 intro hk1 b1 hct
 have f1 := wf0 id1
 have hx1 := hx.keep hk1
 have hks : (l.map Wp.key).length = l.length := by simp
 have hkey : ∀ i, i < l.length → (l.map Wp.key)[i]? = some (l.getD i default).key := fun i hi => Jkk l hi
 have l1 := Jf (P := Tryz.prog) (off := 0) Jcn Jca b1 rfl
 rw [JnK]
 have hD : (l.map Wp.key).isEmpty = decide (l.length = 0) := by cases l <;> simp
 rw [hD]
 generalize hK : l.map Wp.key = ks at hks hkey
 have e0 : ∀ kk, Je Tryz.prog kk .eql 3 (.int .i64 (l.length : Int)) (.int .i64 0) = some (.bool (decide (l.length = 0))) := fun kk => JE rfl
 generalize hD2 : decide (l.length = 0) = D at e0
 generalize hC : Je4 none ks = C
 repeat refine Does.seq ?_
 refine Does.region ?_
 simp [f1, l1, lx, e0]
 repeat refine Does.seq ?_
 cases D with
 | true =>
  refine Does.condT (by simp) ?_
  repeat refine Does.seq ?_
  refine Does.region ?_
  simp
  refine Does.ret ?_
  simp [hk1]
 | false =>
 refine Does.condF (by simp) ?_
 refine Does.skip ?_
 simp
 repeat refine Does.seq ?_
 refine Does.region ?_
 simp
 repeat refine Does.seq ?_
 refine Does.mono (Q := JpE st1 C) ?loop ?tail
 case tail => as_aux_lemma =>
  rintro e fr' st' ⟨hk, hds, ⟨rfl, h2, hc⟩ | ⟨rfl, hc⟩⟩
  ·simp only [andThen]
   simp [hds, h2, hc, hk1.trans hk]
  ·simp only [andThen]
   repeat refine Does.seq ?_
   refine Does.region ?_
   simp
   refine Does.ret ?_
   simp [hds, hc, hk1.trans hk]
 case loop => as_aux_lemma =>
  refine Does.block (Does.up l.length (fun i fr st' => Keep st1 st' ∧ FI gl id1 i fr ∧ i ≤ l.length ∧ Je4 (Jak ks i) (ks.drop i) = C) 0 ?init ?JH ?step)
  case init => exact ⟨.refl st1, ⟨by simp, by simp, by simp, by simp⟩, Nat.zero_le _, hC⟩
  case JH => exact fun i fr st' h => h.2.2.1
  case step =>
   rintro i fr st' ⟨hk, ⟨hds, hg, h1, h3⟩, hi, hchk⟩
   have elen : ∀ kk, Je Tryz.prog kk .lss 3 (.int .i64 (i : Int)) (.int .i64 (l.length : Int)) = some (.bool (decide (i < l.length))) := fun kk => QN rfl
   have l1' := Jf (P := Tryz.prog) (off := 0) Jcn Jca (show st'.box.get id1 = _ by rw [hk.box _ hct]; exact b1) rfl
   repeat refine Does.seq ?_
   refine Does.region ?_
   by_cases hlt : i < l.length
   rotate_left
   ·rw [decide_eq_false hlt] at elen
    simp [h1, h3, f1, l1', lx, elen]
    repeat refine Does.seq ?_
    refine Does.condF (by simp) ?_
    refine Does.exit ?_
    simp only [inBlock, if_true, andThen]
    rw [List.drop_eq_nil_of_le (by omega)] at hchk
    simp only [Je4] at hchk
    exact ⟨hk, by simp [hds], .inr ⟨rfl, hchk.symm⟩⟩
   ·rw [decide_eq_true hlt] at elen
    obtain ⟨p, g1, g2⟩ := (hx1.keep hk).get hlt
    have gk := hkey i hlt
    have hsz : (l.getD i default).t.n < 4000000000000000000 := hs _ (by rw [List.getD_eq_getElem?_getD, List.getElem?_eq_getElem hlt]; exact List.getElem_mem hlt)
    generalize l.getD i default = ex at g2 gk hsz
    have n1 := g2.loads.1
    have i1 := g1 .i64
    simp only [Wp.cells] at n1
    have hns := QS st' ex
    rw [Jnl gk] at hchk
    have w1 : IntKind.i64.wrap ((i : Int) + 1) = (i : Int) + 1 := Jp (by omega) (by omega)
    have hpn := JkT ks (i := i) (by omega)
    simp [h1, h3, f1, l1', lx, elen]
    repeat refine Does.seq ?_
    refine Does.condT (by simp) ?_
    refine Does.skip ?_
    simp
    repeat refine Does.seq ?_
    refine Does.mono (Q := JpF gl id1 i st' (Jbh ex.key (Jak ks i) ks[i + 1]?)) ?turn ?next
    case next => as_aux_lemma =>
     clear hds hg h1 h3
     rintro e fr' st2 (⟨rfl, ho, hds, h2, hk2⟩ | ⟨rfl, ho, ⟨hds, hg, h1, h3⟩, hk2⟩)
     ·simp only [andThen, inBlock]
      rw [ho, Bool.false_and] at hchk
      exact ⟨hk.trans hk2, hds, .inl ⟨rfl, h2, hchk.symm⟩⟩
     ·simp only [andThen]
      rw [ho, Bool.true_and] at hchk
      refine Does.region ?_
      simp [h3, Jq, w1]
      exact ⟨i + 1, by omega, hk.trans hk2, ⟨by simp [hds], by simp [hg], by simp [h1], by simp⟩, by omega, hchk⟩
    case turn => as_aux_lemma =>
     refine Does.block ?_
     repeat refine Does.seq ?_
     refine Does.region ?_
     simp [h1, h3, f1, l1', i1, n1, Jv, z33', V.cells, Ju, JM, Qe, hns]
     have nk := Q3 st' ex
     have nb := Jai st' ex
     have nc := JaE st' ex
     revert nk nb nc
     generalize Q2 st' ex = st2
     generalize hid4 : st'.ctr = id4
     intro nk nb nc
     have hk2 : Keep st1 st2 := hk.trans nk
     have l2 := Jf (P := Tryz.prog) (off := 0) Jcn Jca (show st2.box.get id1 = _ by rw [hk2.box _ hct]; exact b1) rfl
     have hx2 := hx1.keep hk2
     obtain ⟨pl0, pl1, pl2⟩ := QZ nb
     have t0 := pg0 id4 0
     have t1 := pg1 id4 0
     have t2 := pg2 id4 0
     simp only [Nat.zero_add] at t1 t2
     repeat refine Does.seq ?_
     refine Does.region ?_
     simp [t0, pl0]
     repeat refine Does.seq ?_
     cases hv : ex.v with
     | true =>
      have hpo := JpH (pv := Jak ks i) (nx := ks[i + 1]?) hv
      have hc := Jh (Jmy gl st2 ex.t hsz)
      generalize Jau ex.t.toList = pm at hc hpo
      refine Does.condT (by simp) ?_
      repeat refine Does.seq ?_
      refine Does.region ?_
      simp [t1, pl1, hg, Ja hk36, hc]
      repeat refine Does.seq ?_
      cases pm with
      | false =>
       refine Does.condT (by simp) ?_
       repeat refine Does.seq ?_
       refine Does.region ?_
       simp
       refine Does.ret ?_
       simp only [andThen, inBlock]
       exact .inl ⟨rfl, hpo, by simp [hds], by simp, nk⟩
      | true =>
       refine Does.condF (by simp) ?_
       refine Does.skip ?_
       simp
       refine Does.exit ?_
       simp only [andThen, inBlock, if_true]
       exact .inr ⟨rfl, hpo, ⟨by simp [hds], by simp [hg], by simp [h1], by simp [h3]⟩, nk⟩
     | false =>
      refine Does.condF (by simp) ?_
      refine Does.skip ?_
      simp
      have ete := Jbi ex.t
      repeat refine Does.seq ?_
      refine Does.mono (Q := Jnm gl id1 id4 i 36 (!ex.q && ex.t.toList.isEmpty) st2) ?r10 ?t10
      case r10 => as_aux_lemma =>
       refine Does.region ?_
       generalize ex.t.toList.isEmpty = te at ete
       cases hq : ex.q <;> rw [hq] at pl2 <;> simp [t1, t2, pl1, pl2, Ji, ete] <;>
        exact ⟨rfl, ⟨⟨by simp [hds], by simp [hg], by simp [h1], by simp [h3]⟩, by simp⟩, by simp, .refl _⟩
      case t10 => as_aux_lemma =>
      clear hds hg h1 h3
      rintro e fr st3 ⟨rfl, ⟨⟨hds, hg, h1, h3⟩, h4⟩, h36, hk3⟩
      have hkk : Keep st1 st3 := hk2.trans hk3
      simp only [andThen]
      repeat refine Does.seq ?_
      cases hne : (!ex.q && ex.t.toList.isEmpty) with
      | true =>
       rw [hne] at h36
       refine Does.condT (by simp [h36]) ?_
       repeat refine Does.seq ?_
       refine Does.region ?_
       simp
       refine Does.ret ?_
       simp only [andThen, inBlock]
       exact .inl ⟨rfl, JpI hv hne, by simp [hds], by simp, nk.trans hk3⟩
      | false =>
      rw [hne] at h36
      refine Does.condF (by simp [h36]) ?_
      refine Does.skip ?_
      simp
      repeat refine Does.seq ?_
      refine Does.region ?_
      simp
      repeat refine Does.seq ?_
      have nb3 : st3.box.get id4 = some (.cells [.bool ex.v, .str ex.t, .bool ex.q] 43 true (some 0)) := by rw [hk3.box _ nc]; exact nb
      clear pl0 pl1 pl2
      obtain ⟨pl0, pl1, pl2⟩ := QZ nb3
      refine Does.mono (Q := JpG gl id1 id4 i (ex.t.toList.all (fun c => !Go.Sy.badC ex.q c)) st3) ?bytes ?tb
      case bytes => as_aux_lemma =>
       generalize hA : ex.t.toList.all (fun c => !Go.Sy.badC ex.q c) = A
       have hszn := hsz
       refine Does.block (Does.up ex.t.n (fun j fr st' => Jad st3 st' ∧ FJ gl id1 id4 i fr ∧ Fr.at fr 5 = .int .i64 (j : Int) ∧ j ≤ ex.t.n ∧ JdA ex.q ex.t.toList j true) 0 ?init ?JH ?step)
       case init => exact ⟨rfl, ⟨⟨by simp [hds], by simp [hg], by simp [h1], by simp [h3]⟩, by simp [h4]⟩, by simp, Nat.zero_le _, JkU _ _⟩
       case JH => exact fun i fr st' h => h.2.2.2.1
       case step => as_aux_lemma =>
        clear hds hg h1 h3 h4 h36
        rintro j fr st' ⟨hst', ⟨⟨hds, hg, h1, h3⟩, h4⟩, h5, hj, hgood⟩
        rw [show st' = st3 from hst']
        clear hst'
        have elen : ∀ kk, Je Tryz.prog kk .lss 3 (.int .i64 (j : Int)) (.int .i64 (ex.t.n : Int)) = some (.bool (decide (j < ex.t.n))) := fun kk => QN rfl
        have vlen9 : QU Tryz.prog 9 (.str ex.t) = some (.int .i64 ((ex.t.n : Nat) : Int)) := QC rfl
        repeat refine Does.seq ?_
        refine Does.region ?_
        by_cases hjl : j < ex.t.n
        rotate_left
        ·rw [decide_eq_false hjl] at elen
         simp [h4, h5, t1, pl1, vlen9, elen]
         repeat refine Does.seq ?_
         refine Does.condF (by simp) ?_
         refine Does.exit ?_
         simp only [inBlock, if_true, andThen]
         have := JlT hgood (by simp; omega)
         rw [hA] at this
         exact ⟨rfl, .inr ⟨rfl, this, ⟨by simp [hds], by simp [hg], by simp [h1], by simp [h3]⟩, by simp [h4]⟩⟩
        ·rw [decide_eq_true hjl] at elen
         have hgs := fun h => JkV hgood hjl h
         have hgn := fun h => JlU (q := ex.q) hjl h
         rw [hA] at hgn
         have hat := ex.t.at_lt j
         rw [Jnn _ _ hat] at hgs hgn
         have hci := Jh (Jn4 gl st3 (ex.t.at j) hat (S.ofList sp18) (by decide))
         rw [Jo3, show S.ofList sp18 = S.ofList [32, 9, 10, 39, 34, 92, 36, 59, 38, 124, 60, 62, 40, 41, 42, 63, 91] from rfl] at hci
         have vi9 : ∀ k, JbN Tryz.prog 9 (.str ex.t) (.int k (j : Int)) = some (.int .u8 ((ex.t.at j : Nat) : Int)) := fun k => JY rfl hjl
         generalize ex.t.at j = c at hgs hgn hat hci vi9
         have ec0 : ∀ kk, Je Tryz.prog kk .eql 5 (.int .u8 (c : Int)) (.int .u8 0) = some (.bool (decide (c = 0))) := fun kk => JE rfl
         have ec1 : ∀ kk, Je Tryz.prog kk .eql 5 (.int .u8 (c : Int)) (.int .u8 96) = some (.bool (decide (c = 96))) := fun kk => JE rfl
         have w2 : IntKind.i64.wrap ((j : Int) + 1) = (j : Int) + 1 := Jp (by omega) (by omega)
         generalize sp18.elem (UInt8.ofNat c) = inn at hgs hgn hci
         generalize decide (c = 0) = c0 at hgs hgn ec0
         generalize decide (c = 96) = c1 at hgs hgn ec1
         generalize ex.q = qq at hgs hgn pl2
         simp [h4, h5, t1, pl1, vlen9, elen]
         repeat refine Does.seq ?_
         refine Does.condT (by simp) ?_
         refine Does.skip ?_
         simp
         repeat refine Does.seq ?_
         refine Does.block ?_
         repeat refine Does.seq ?_
         refine Does.region ?_
         simp [h4, h5, t1, pl1, vi9]
         repeat refine Does.seq ?_
         refine Does.mono (Q := fun e fr st' => Jad st3 st' ∧ e = AE.normal ∧ FJ gl id1 id4 i fr ∧ Fr.at fr 5 = .int .i64 (j : Int) ∧ Fr.at fr 62 = .bool (c0 || (!qq && (inn || c1)))) ?cmp ?rest
         case cmp => as_aux_lemma =>
          refine Does.region ?_
          refine Oks.cont (Q := fun fr st' => Jad st3 st' ∧ FJ gl id1 id4 i fr ∧ Fr.at fr 5 = .int .i64 (j : Int) ∧ Fr.at fr 6 = .int .u8 (c : Int) ∧ Fr.at fr 62 = .bool (c0 || (!qq && (inn || c1)))) ?_ ?_
          ·cases c0 with
           | true => simp [h5, ec0]; exact ⟨rfl, ⟨⟨by simp [hds], by simp [hg], by simp [h1], by simp [h3]⟩, by simp [h4]⟩⟩
           | false =>
            cases qq with
            | true => simp [h4, h5, ec0, t2, pl2]; exact ⟨rfl, ⟨⟨by simp [hds], by simp [hg], by simp [h1], by simp [h3]⟩, by simp [h4]⟩⟩
            | false =>
             have hkc : ∀ (a : List V), JaA Tryz.prog (ihCall (W Tryz.prog)) gl 97 a st3 = ihCall (W Tryz.prog) gl (.f 97) a st3 := fun a => Ja hk47
             cases inn with
             | true => simp [h4, h5, ec0, t2, pl2, hg, hkc, hci]; exact ⟨rfl, ⟨⟨by simp [hds], by simp [hg], by simp [h1], by simp [h3]⟩, by simp [h4]⟩⟩
             | false => simp [h4, h5, ec0, t2, pl2, hg, hkc, hci, ec1]; exact ⟨rfl, ⟨⟨by simp [hds], by simp [hg], by simp [h1], by simp [h3]⟩, by simp [h4]⟩⟩
          ·intro fr st' h
           exact ⟨h.1, rfl, h.2.1, h.2.2.1, h.2.2.2.2⟩
         case rest => as_aux_lemma =>
          clear hds hg h1 h3 h4 h5
          rintro e fr st' ⟨hst', rfl, ⟨⟨hds, hg, h1, h3⟩, h4⟩, h5, h62⟩
          rw [show st' = st3 from hst']
          simp only [andThen]
          repeat refine Does.seq ?_
          generalize (c0 || (!qq && (inn || c1))) = bb at h62 hgs hgn
          cases bb with
          | true =>
           refine Does.condT (by simp [h62]) ?_
           repeat refine Does.seq ?_
           refine Does.region ?_
           simp
           refine Does.ret ?_
           simp only [andThen, inBlock]
           exact ⟨rfl, .inl ⟨rfl, hgn rfl, by simp [hds], by simp⟩⟩
          | false =>
           refine Does.condF (by simp [h62]) ?_
           refine Does.skip ?_
           simp only [andThen, inBlock]
           refine Does.region ?_
           simp [h5, Jq, w2]
           exact ⟨j + 1, by omega, rfl, ⟨⟨by simp [hds], by simp [hg], by simp [h1], by simp [h3]⟩, by simp [h4]⟩, by simp, by omega, hgs rfl⟩
      case tb => as_aux_lemma =>
      clear hds hg h1 h3 h4 h36
      rintro e fr st4 ⟨hst4, ⟨rfl, ho, hds, h2⟩ | ⟨rfl, ho, ⟨⟨hds, hg, h1, h3⟩, h4⟩⟩⟩
      ·simp only [andThen, inBlock]
       rw [show st4 = st3 from hst4]
       exact .inl ⟨rfl, JpJ hv ho, hds, h2, nk.trans hk3⟩
      ·simp only [andThen]
       rw [show st4 = st3 from hst4]
       clear hst4
       rw [JpK hv hne ho, hpn]
       have hD18 : (decide (i = 0) && !ex.q && (ex.t.toList.head? == some 35 || ex.t.toList.head? == some 126)) = (decide (i = 0) && !ex.q && (decide (ex.t.at 0 = 35) || decide (ex.t.at 0 = 126))) := by
        cases hq : ex.q with
        | true => simp
        | false =>
         rw [hq, Jgv] at hne
         have hp : 0 < ex.t.n := by
          have : ¬ ex.t.n = 0 := by simpa using hne
          omega
         rw [← JjZ hp 35 (by omega), ← JjZ hp 126 (by omega)]
         rfl
       have hpos : ex.q = false → 0 < ex.t.n := fun hq => by
        rw [hq, Jgv] at hne
        have : ¬ ex.t.n = 0 := by simpa using hne
        omega
       rw [hD18]
       repeat refine Does.seq ?_
       refine Does.mono (Q := Jnm gl id1 id4 i 81 (decide (i = 0) && !ex.q && (decide (ex.t.at 0 = 35) || decide (ex.t.at 0 = 126))) st3) ?r18 ?t18
       case r18 => as_aux_lemma =>
        refine Does.region ?_
        have ei : ∀ kk, Je Tryz.prog kk .eql 3 (.int .i64 (i : Int)) (.int .i64 0) = some (.bool (decide (i = 0))) := fun kk => JE rfl
        have vi9 : 0 < ex.t.n → ∀ k, JbN Tryz.prog 9 (.str ex.t) (.int k 0) = some (.int .u8 ((ex.t.at 0 : Nat) : Int)) := fun h k => JY (i := 0) rfl h
        generalize ex.t.at 0 = c at vi9
        have ec0 : ∀ kk, Je Tryz.prog kk .eql 5 (.int .u8 (c : Int)) (.int .u8 35) = some (.bool (decide (c = 35))) := fun kk => JE rfl
        have ec1 : ∀ kk, Je Tryz.prog kk .eql 5 (.int .u8 (c : Int)) (.int .u8 126) = some (.bool (decide (c = 126))) := fun kk => JE rfl
        generalize decide (c = 35) = c0 at ec0
        generalize decide (c = 126) = c1 at ec1
        generalize hfi : decide (i = 0) = fi at ei
        clear hD18 hD hD2 hK hks hkey hchk gk n1 i1 hns hpn e0 elen hne ho
        generalize ex.q = qq at pl2 hpos
        cases fi with
        | false => simp [h3, ei]; exact ⟨rfl, ⟨⟨by simp [hds], by simp [hg], by simp [h1], by simp [h3]⟩, by simp [h4]⟩, by simp, .refl _⟩
        | true =>
         cases qq with
         | true => simp [h3, h4, ei, t2, pl2]; exact ⟨rfl, ⟨⟨by simp [hds], by simp [hg], by simp [h1], by simp [h3]⟩, by simp [h4]⟩, by simp, .refl _⟩
         | false =>
          have vi9' := vi9 (hpos rfl)
          cases c0 with
          | true => simp [h3, h4, ei, t2, pl2, t1, pl1, vi9', ec0]; exact ⟨rfl, ⟨⟨by simp [hds], by simp [hg], by simp [h1], by simp [h3]⟩, by simp [h4]⟩, by simp, .refl _⟩
          | false => simp [h3, h4, ei, t2, pl2, t1, pl1, vi9', ec0, ec1]; exact ⟨rfl, ⟨⟨by simp [hds], by simp [hg], by simp [h1], by simp [h3]⟩, by simp [h4]⟩, by simp, .refl _⟩
       case t18 => as_aux_lemma =>
       generalize (decide (i = 0) && !ex.q && (decide (ex.t.at 0 = 35) || decide (ex.t.at 0 = 126))) = b18
       clear hds hg h1 h3 h4
       rintro e fr st5 ⟨rfl, ⟨⟨hds, hg, h1, h3⟩, h4⟩, h81, hk5⟩
       simp only [andThen]
       repeat refine Does.seq ?_
       cases b18 with
       | true =>
        refine Does.condT (by simp [h81]) ?_
        repeat refine Does.seq ?_
        refine Does.region ?_
        simp
        refine Does.ret ?_
        simp only [andThen, inBlock]
        exact .inl ⟨rfl, rfl, by simp [hds], by simp, (nk.trans hk3).trans hk5⟩
       | false =>
       refine Does.condF (by simp [h81]) ?_
       refine Does.skip ?_
       simp only [andThen, Bool.not_false, Bool.true_and]
       repeat refine Does.seq ?_
       have hkk5 : Keep st1 st5 := hkk.trans hk5
       have nb5 : st5.box.get id4 = some (.cells [.bool ex.v, .str ex.t, .bool ex.q] 43 true (some 0)) := by rw [hk5.box _ (Nat.lt_of_lt_of_le nc hk3.ctr)]; exact nb3
       clear pl0 pl1 pl2
       have nc5 : id4 < st5.ctr := Nat.lt_of_lt_of_le nc (Nat.le_trans hk3.ctr hk5.ctr)
       refine Does.mono (Q := Jnm gl id1 id4 i 105 (Jd3 (Jak ks i) ex.key) st5) ?r20 ?t20
       case r20 => as_aux_lemma =>
        have vx := Jag x (hx.small hl)
        have hkt := (Keep.refl st5).tick 24
        have vb : ∀ b, veq 1000000000 (.bool b) (.bool b) = true := fun b => Jag _ (by show 1 < 1000000000; omega)
        have hk6 := hkk5.tick 24
        have l5 := Jf (P := Tryz.prog) (off := 0) Jcn Jca (show ({ ctr := st5.ctr + 24, box := st5.box } : St).box.get id1 = _ by rw [hk6.box _ hct]; exact b1) rfl
        obtain ⟨r0, r1, r2⟩ := QZ (st := { ctr := st5.ctr + 24, box := st5.box }) nb5
        have hx6 := hx1.keep hk6
        clear hD18 hD hD2 hK hchk n1 i1 hns hpn e0 elen hne ho hpos
        cases i with
        | zero =>
         refine Does.draw (b := [0, 1, 3, 7, 15, 7, 39, 127, 255, 511, 1023, 2047, 4095, 8191, 16383, 8191, 40959, 131071, 262143, 524287, 8191, 1056767, 4194303, 8388607]) (l := [0, 1, 2, 3, 4, 5, 6, 7, 8, 9, 10, 11, 12, 13, 14, 15, 16, 17, 18, 19, 20, 21, 22, 23]) (by kernel_rfl) (by kernel_rfl) (by kernel_rfl) ?_
         simp at h3
         have e1 : ∀ kk, Je Tryz.prog kk .gtr 3 (.int .i64 0) (.int .i64 0) = some (.bool false) := fun kk => by rw [JaQ]; rfl
         simp [h3, e1, Jak, Jd3]
         exact ⟨rfl, ⟨⟨by simp [hds], by simp [hg], by simp [h1], by simp [h3]⟩, by simp [h4]⟩, by simp, hkt⟩
        | succ j =>
         obtain ⟨pa, g3, g4⟩ := hx6.get (show j < l.length by omega)
         have gj := hkey j (by omega)
         generalize l.getD j default = pr at g4 gj
         obtain ⟨_, ⟨p0, m0, n0⟩, _, ⟨p2, m2, n2⟩⟩ := g4.loads
         have i3 := g3 .i64
         have wj : IntKind.i64.wrap (j : Int) = (j : Int) := Jp (by omega) (by omega)
         have e1 : ∀ kk, Je Tryz.prog kk .gtr 3 (.int .i64 ((j : Int) + 1)) (.int .i64 0) = some (.bool true) := fun kk => by rw [JaQ, decide_eq_true (by omega)]
         have eb : ∀ kk, Je Tryz.prog kk .eql 4 (.bool pr.q) (.bool ex.q) = some (.bool (pr.q == ex.q)) := fun kk => JgL
         have hn : Jd3 (Jak ks (j + 1)) ex.key = (!pr.v && (pr.q == ex.q)) := by
          show Jd3 (ks[j]?) ex.key = _
          rw [gj]; rfl
         rw [hn]
         clear hn
         generalize (pr.q == ex.q) = z at eb
         generalize ex.q = qe at r2 eb
         generalize pr.q = qp at n2 eb
         simp at h3
         cases hv' : pr.v with
         | true =>
          rw [hv'] at n0
          refine Does.draw (b := [0, 1, 3, 7, 15, 7, 39, 127, 255, 511, 1023, 2047, 4095, 8191, 16383, 8191, 40959, 131071, 262143, 524287, 8191, 1056767, 4194303, 8388607]) (l := [0, 1, 2, 3, 4, 5, 6, 7, 8, 9, 10, 11, 12, 13, 14, 15, 16, 17, 18, 19, 20, 21, 22, 23]) (by kernel_rfl) (by kernel_rfl) (by kernel_rfl) ?_
          simp [JO, h1, h3, e1, f1, l5, vx, JI, wj, i3, m0, n0, vb]
          exact ⟨rfl, ⟨⟨by simp [hds], by simp [hg], by simp [h1], by simp [h3]⟩, by simp [h4]⟩, by simp, hkt⟩
         | false =>
          rw [hv'] at n0
          refine Does.draw (b := [0, 1, 3, 7, 15, 7, 39, 127, 255, 511, 1023, 2047, 4095, 8191, 16383, 8191, 40959, 131071, 262143, 524287, 8191, 1056767, 4194303, 8388607]) (l := [0, 1, 2, 3, 4, 5, 6, 7, 8, 9, 10, 11, 12, 13, 14, 15, 16, 17, 18, 19, 20, 21, 22, 23]) (by kernel_rfl) (by kernel_rfl) (by kernel_rfl) ?_
          simp [JO, h1, h3, h4, e1, f1, l5, vx, JI, wj, i3, m0, n0, m2, n2, t2, r2, eb, vb]
          exact ⟨rfl, ⟨⟨by simp [hds], by simp [hg], by simp [h1], by simp [h3]⟩, by simp [h4]⟩, by simp, hkt⟩
       case t20 => as_aux_lemma =>
       generalize Jd3 (Jak ks i) ex.key = b20
       clear hds hg h1 h3 h4
       rintro e fr st6 ⟨rfl, ⟨⟨hds, hg, h1, h3⟩, h4⟩, h105, hk6⟩
       simp only [andThen]
       repeat refine Does.seq ?_
       cases b20 with
       | true =>
        refine Does.condT (by simp [h105]) ?_
        repeat refine Does.seq ?_
        refine Does.region ?_
        simp
        refine Does.ret ?_
        simp only [andThen, inBlock]
        exact .inl ⟨rfl, rfl, by simp [hds], by simp, ((nk.trans hk3).trans hk5).trans hk6⟩
       | false =>
       refine Does.condF (by simp [h105]) ?_
       refine Does.skip ?_
       simp only [andThen, Bool.not_false, Bool.true_and]
       repeat refine Does.seq ?_
       have hkk6 : Keep st1 st6 := hkk5.trans hk6
       have nb6 : st6.box.get id4 = some (.cells [.bool ex.v, .str ex.t, .bool ex.q] 43 true (some 0)) := by rw [hk6.box _ nc5]; exact nb5
       obtain ⟨pl0, pl1, pl2⟩ := QZ nb6
       refine Does.mono (Q := Jnm gl id1 id4 i 142 (ex.q && ex.t.toList.isEmpty && (Ja2 (Jak ks i) || Ja2 ks[i + 1]?)) st6) ?r22 ?t22
       case r22 => as_aux_lemma =>
        have l6 := Jf (P := Tryz.prog) (off := 0) Jcn Jca (show st6.box.get id1 = _ by rw [hkk6.box _ hct]; exact b1) rfl
        have hx6 := hx1.keep hkk6
        have ete := Jbi ex.t
        have hp0 : i = 0 → Ja2 (Jak ks i) = false := fun h => by subst h; rfl
        have hps : ∀ j, i = j + 1 → Ja2 (Jak ks i) = (l.getD j default).q := fun j h => by
         subst h
         show Ja2 ks[j]? = _
         rw [hkey j (by omega)]; rfl
        have hnext : Ja2 ks[i + 1]? = (decide (i + 1 < l.length) && (l.getD (i + 1) default).q) := by
         by_cases h : i + 1 < l.length
         ·rw [hkey _ h, decide_eq_true h]; rfl
         ·rw [decide_eq_false h, List.getElem?_eq_none (by omega)]; rfl
        generalize Ja2 (Jak ks i) = qp at hp0 hps
        generalize Ja2 ks[i + 1]? = qn at hnext
        clear hD18 hD hD2 hK hchk n1 i1 hns hpn e0 elen hne ho hpos gk hv
        generalize ex.t.toList.isEmpty = te at ete
        generalize ex.q = qe at pl2
        refine Does.region ?_
        refine Oks.cont (Q := fun fr st' => Jad st6 st' ∧ FJ gl id1 id4 i fr ∧ Fr.at fr 142 = .bool (qe && te && (qp || qn))) ?all (fun fr st' h => ⟨rfl, h.2.1, h.2.2, by rw [show st' = st6 from h.1]; exact .refl _⟩)
        refine Oks.cut 8 (fun fr st' => Jad st6 st' ∧ FJ gl id1 id4 i fr ∧ Fr.at fr 113 = .bool (qe && te)) ?c1 ?c2
        case c1 => as_aux_lemma =>
         simp only [List.take]
         cases qe <;> simp [h4, t2, pl2, t1, pl1, Ji, ete] <;> exact ⟨rfl, ⟨⟨by simp [hds], by simp [hg], by simp [h1], by simp [h3]⟩, by simp [h4]⟩⟩
        case c2 => as_aux_lemma =>
        clear hds hg h1 h3 h4 pl0 pl1 pl2
        rintro fr st' ⟨hst', ⟨⟨hds, hg, h1, h3⟩, h4⟩, h113⟩
        rw [show st' = st6 from hst']
        clear hst'
        refine Oks.cut 12 (fun fr st' => Jad st6 st' ∧ FJ gl id1 id4 i fr ∧ Fr.at fr 113 = .bool (qe && te) ∧ Fr.at fr 125 = (if (qe && te) = true then .bool qp else .tup [])) ?c3 ?c4
        case c3 => as_aux_lemma =>
         simp only [List.take, List.take_succ_cons, List.drop]
         generalize (qe && te) = z at h113
         cases z with
         | false => simp [h113]; exact ⟨rfl, ⟨⟨by simp [hds], by simp [hg], by simp [h1], by simp [h3]⟩, by simp [h4]⟩⟩
         | true =>
          cases i with
          | zero =>
           simp at h3
           have hp0 := hp0 rfl
           subst hp0
           have e1 : ∀ kk, Je Tryz.prog kk .gtr 3 (.int .i64 0) (.int .i64 0) = some (.bool false) := fun kk => by rw [JaQ]; rfl
           simp [h113, h3, e1]; exact ⟨rfl, ⟨⟨by simp [hds], by simp [hg], by simp [h1], by simp [h3]⟩, by simp [h4]⟩⟩
          | succ j =>
           obtain ⟨pa, g3, g4⟩ := hx6.get (show j < l.length by omega)
           have hprev := hps j rfl
           clear hps hp0
           generalize l.getD j default = pr at g4 hprev
           obtain ⟨_, ⟨p0, m0, n0⟩, _, ⟨p2, m2, n2⟩⟩ := g4.loads
           have i3 := g3 .i64
           have wj : IntKind.i64.wrap (j : Int) = (j : Int) := Jp (by omega) (by omega)
           have e1 : ∀ kk, Je Tryz.prog kk .gtr 3 (.int .i64 ((j : Int) + 1)) (.int .i64 0) = some (.bool true) := fun kk => by rw [JaQ, decide_eq_true (by omega)]
           simp at h3
           subst hprev
           simp [h113, h1, h3, e1, f1, l6, JI, wj, i3, m2, n2]; exact ⟨rfl, ⟨⟨by simp [hds], by simp [hg], by simp [h1], by simp [h3]⟩, by simp [h4]⟩⟩
        case c4 => as_aux_lemma =>
        clear hds hg h1 h3 h4 h113 hp0 hps
        rintro fr st' ⟨hst', ⟨⟨hds, hg, h1, h3⟩, h4⟩, h113, h125⟩
        rw [show st' = st6 from hst']
        clear hst'
        simp only [List.drop, List.drop_succ_cons]
        generalize (qe && te) = z at h113 h125
        cases z with
        | false =>
         simp only [Bool.false_eq_true, if_false] at h125
         simp [h113, h125]; exact ⟨rfl, ⟨⟨by simp [hds], by simp [hg], by simp [h1], by simp [h3]⟩, by simp [h4]⟩⟩
        | true =>
         simp only [if_true] at h125
         cases qp with
         | true => simp [h113, h125]; exact ⟨rfl, ⟨⟨by simp [hds], by simp [hg], by simp [h1], by simp [h3]⟩, by simp [h4]⟩⟩
         | false =>
          have wj : IntKind.i64.wrap ((i : Int) + 1) = (i : Int) + 1 := Jp (by omega) (by omega)
          have e1 : ∀ kk, Je Tryz.prog kk .lss 3 (.int .i64 ((i : Int) + 1)) (.int .i64 (l.length : Int)) = some (.bool (decide (i + 1 < l.length))) := fun kk => by
           have := QN (P := Tryz.prog) (kk := kk) (T := 3) (q := .i64) (c := i + 1) (m := l.length) rfl
           simpa using this
          by_cases hlt2 : i + 1 < l.length
          ·rw [decide_eq_true hlt2] at e1 hnext
           obtain ⟨pa, g3, g4⟩ := hx6.get hlt2
           generalize l.getD (i + 1) default = pr at g4 hnext
           obtain ⟨_, ⟨p0, m0, n0⟩, _, ⟨p2, m2, n2⟩⟩ := g4.loads
           have i3 := g3 .i64
           simp at i3 hnext
           subst hnext
           simp [h113, h125, h1, h3, e1, f1, l6, lx, Jq, wj, i3, m2, n2]; exact ⟨rfl, ⟨⟨by simp [hds], by simp [hg], by simp [h1], by simp [h3]⟩, by simp [h4]⟩⟩
          ·rw [decide_eq_false hlt2] at e1 hnext
           simp at hnext
           subst hnext
           simp [h113, h125, h1, h3, e1, f1, l6, lx, Jq, wj]; exact ⟨rfl, ⟨⟨by simp [hds], by simp [hg], by simp [h1], by simp [h3]⟩, by simp [h4]⟩⟩
       case t22 => as_aux_lemma =>
       generalize (ex.q && ex.t.toList.isEmpty && (Ja2 (Jak ks i) || Ja2 ks[i + 1]?)) = b22
       clear hds hg h1 h3 h4
       rintro e fr st7 ⟨rfl, ⟨⟨hds, hg, h1, h3⟩, h4⟩, h142, hk7⟩
       simp only [andThen]
       repeat refine Does.seq ?_
       cases b22 with
       | true =>
        refine Does.condT (by simp [h142]) ?_
        repeat refine Does.seq ?_
        refine Does.region ?_
        simp
        refine Does.ret ?_
        simp only [inBlock]
        exact .inl ⟨rfl, rfl, by simp [hds], by simp, (((nk.trans hk3).trans hk5).trans hk6).trans hk7⟩
       | false =>
       refine Does.condF (by simp [h142]) ?_
       refine Does.skip ?_
       simp only [inBlock]
       exact .inr ⟨rfl, rfl, ⟨hds, hg, h1, h3⟩, (((nk.trans hk3).trans hk5).trans hk6).trans hk7⟩
end Go.Vm
namespace Go.Vm
open Go Go.Proofs Go.Sy
set_option maxRecDepth 100000
attribute [local simp] Oks J8 Jj Jo vop Js Jy ev evs toV andThen inBlock Jn Fr.dsTo Fr.glTo Fr.toNone Jk Jl Jm J6 Jc Jz Jw V.undef JU J9 Qk
structure OwnP (b : Nat) (st : St) (s : V) (l : List Wp) : Prop where
 at' : (s = .nils ∧ l = []) ∨ ∃ id cap fl, s = .ms id 0 l.length 3 cap ∧ st.box.get id = some (.cells (Jaa l) 43 fl (some 0)) ∧ b ≤ id ∧ id < st.ctr ∧ (cap = some l.length ∨ cap = none)
theorem OwnP.vp {b : Nat} {st : St} {s : V} {l : List Wp} (h : OwnP b st s l) : Vp st s l := by
 rcases h.at' with ⟨rfl, rfl⟩ | ⟨id, cap, fl, rfl, hb, _, hid, hc⟩
 ·exact .nils
 ·refine .ms id 0 cap (Jaa l) [] 43 fl (some 0) l hb hid (by simp) (Nat.zero_le _) ?_
  rcases hc with rfl | rfl <;> simp [JbM, Jaq]
theorem Vp.src {st : St} {x : V} {l : List Wp} (h : Vp st x l) : Qj st 3 x = some (Jaa l, l.length) := by
 have hl := JaD l
 cases h with
 | nils => rfl
 | sl l ex => simp only [Qj, JJ, hl, Nat.beq_refl]
 | ms id off cap cs r e fl fz l hb hid hd ho hc =>
  have hlen : off + l.length * 3 ≤ cs.length := by
   have := congrArg List.length hd
   simp [hl] at this; omega
  have h1 : Nat.ble (off + l.length * 3) cs.length = true := Nat.ble_eq_true_of_le hlen
  simp only [Qj, JJ, hb, h1, sub, hd]
  rw [List.take_append_of_le_length (by omega), List.take_of_length_le (by omega)]
theorem i33 : ∃ i, Tryz.prog.info? 43 = some i ∧ i.size = 3 ∧ i.bytes ≤ 64 := ⟨_, rfl, by decide, by decide⟩
structure LowP (b : Nat) (st st' : St) : Prop where
 ctr : st.ctr ≤ st'.ctr
 box : ∀ id, id < b → st'.box.get id = st.box.get id
theorem LowP.keep {b : Nat} {st0 st st' : St} (h : LowP b st st') (hk : Keep st0 st) (hb : st0.ctr ≤ b) : Keep st0 st' :=
 ⟨Nat.le_trans hk.ctr h.ctr, fun id hi => by rw [h.box id (Nat.lt_of_lt_of_le hi hb)]; exact hk.box id hi⟩
theorem LowP.refl (b : Nat) (st : St) : LowP b st st := ⟨Nat.le_refl _, fun _ _ => rfl⟩
theorem OwnP.app {b : Nat} {st : St} {s x : V} {l m : List Wp} (h : OwnP b st s l) (hx : Vp st x m) (hn : l.length + m.length < 4000000) (hb0 : b ≤ st.ctr) :
  ∃ y st', J0 Tryz.prog st 39 s x = some (y, st') ∧ OwnP b st' y (l ++ m) ∧ LowP b st st' := by
 obtain ⟨i, hi, hs, hby⟩ := i33
 have hsrc := hx.src
 have hm3 := JaD m
 have hzb : Nat.beq 3 0 = false := rfl
 have hzl : Nat.beq ([V.bool false, .str ⟨0, 0⟩, .bool false] : List V).length 3 = true := rfl
 have hone := Jf0 m
 have hsl : JJ st 3 s = some (Jaa l, l.length) := by
  have := h.vp.src
  rcases h.at' with ⟨rfl, rfl⟩ | ⟨id, cap, fl, rfl, hb, _, hid, hc⟩ <;> exact this
 by_cases hm : m = []
 ·subst hm
  refine ⟨s, st, ?_, by rw [List.append_nil]; exact h, .refl _ _⟩
  simp only [J0, Tryz.underlying39, hi, hs, JQ, hzb, hsrc, hsl]
  rfl
 have hmb : Nat.beq m.length 0 = false := by
  cases m with
  | nil => exact absurd rfl hm
  | cons a b => rfl
 have hmp : 0 < m.length := by
  cases m with
  | nil => exact absurd rfl hm
  | cons a b => simp
 have h1 : Nat.ble ((l.length + m.length) * i.bytes) Jr = true := Nat.ble_eq_true_of_le (Nat.le_trans (Nat.mul_le_mul (Nat.le_of_lt hn) hby) (by decide))
 have h2 : Nat.ble (l.length + m.length) Jr = true := Nat.ble_eq_true_of_le (Nat.le_trans (Nat.le_of_lt hn) (by decide))
 have hnew : ∀ (bx : Tr Bx), OwnP b { ctr := st.ctr + 1, box := bx.put st.ctr (.cells (Jaa l ++ Jaa m) 43 false (some 0)) } (.ms st.ctr 0 (l.length + m.length) 3 none) (l ++ m) := fun bx =>
  ⟨.inr ⟨st.ctr, none, false, by rw [List.length_append], by rw [Tr.get_put, if_pos rfl, Jip], hb0, Nat.lt_succ_self _, .inr rfl⟩⟩
 rcases h.at' with ⟨rfl, rfl⟩ | ⟨id, cap, fl, rfl, hb, hbid, hid, hc⟩
 ·refine ⟨_, _, ?_, hnew st.box, ⟨Nat.le_succ _, fun j hj => by rw [Tr.get_put, if_neg (by omega)]⟩⟩
  simp only [J0, Tryz.underlying39, hi, hs, JQ, hzb, hsrc, hsl, hmb, h1, h2, hone]
  rfl
 ·rcases hc with rfl | rfl
  ·have h3 : Nat.ble (l.length + m.length) l.length = false := by
    rw [Bool.eq_false_iff]; intro h; have := Nat.le_of_ble_eq_true h; omega
   refine ⟨_, _, ?_, hnew st.box, ⟨Nat.le_succ _, fun j hj => by rw [Tr.get_put, if_neg (by omega)]⟩⟩
   simp only [J0, Tryz.underlying39, hi, hs, JQ, hzb, hsrc, hsl, hmb, h1, h2, hone, hb, QV, h3]
   rfl
  ·have h3 : Nat.ble (0 + (l.length + m.length) * 3) (Jaa l).length = false := by
    rw [Bool.eq_false_iff, JaD]; intro h; have := Nat.le_of_ble_eq_true h; omega
   refine ⟨_, _, ?_, hnew (st.box.del id), ⟨Nat.le_succ _, fun j hj => by rw [Tr.get_put, if_neg (by omega), Tr.get_del, if_neg (by omega)]⟩⟩
   simp only [J0, Tryz.underlying39, hi, hs, JQ, hzb, hsrc, hsl, hmb, h1, h2, hone, hb, QV, h3]
   rfl
theorem Vp.tail {st : St} {x : V} {l : List Wp} (h : Vp st x l) {lo : Nat} (hlo : lo ≤ l.length) {k : IntKind} :
  ∃ y, QA Tryz.prog 39 x (some (.int k (lo : Int))) none = some y ∧ Vp st y (l.drop lo) := by
 have hb : Nat.ble lo l.length = true := Nat.ble_eq_true_of_le hlo
 have hl := JaD l
 cases h with
 | nils =>
  have : lo = 0 := by simpa using hlo
  subst this
  exact ⟨.nils, by simp only [QA, Tryz.underlying39, z33]; rfl, .nils⟩
 | sl l ex =>
  refine ⟨_, by simp only [QA, Tryz.underlying39, JH, Qa, z33, hb, Jaq, hl, Nat.beq_refl, Bool.and_true]; rfl, ?_⟩
  have h1 : sub (Jaa l) (lo * 3) ((l.length - lo) * 3) = Jaa (l.drop lo) := by
   simp only [sub]
   rw [Jdh, List.take_of_length_le (by rw [JaD]; simp)]
  have h2 : l.length - lo = (l.drop lo).length := by simp
  rw [h1, h2]
  exact .sl _ _
 | ms id off cap cs r e fl fz l hbx hid hd ho hc =>
  refine ⟨_, by simp only [QA, Tryz.underlying39, JH, Qa, z33, hb, hc, Nat.beq_refl, Bool.and_true]; rfl, ?_⟩
  have h2 : l.length - lo = (l.drop lo).length := by simp
  rw [h2]
  have hlen : off + l.length * 3 ≤ cs.length := by
   have := congrArg List.length hd
   simp [hl] at this; omega
  refine .ms id (off + lo * 3) _ cs r e fl fz (l.drop lo) hbx hid ?_ (by omega) ?_
  ·rw [← List.drop_drop, hd, List.drop_append_of_le_length (by omega), Jdh]
  ·cases cap with
   | none => simp [JcR, JbM, Jaq]
   | some c =>
    simp only [JbM, JcR, List.length_drop] at hc ⊢
    have := Nat.le_of_ble_eq_true hc
    exact Nat.ble_eq_true_of_le (by show l.length - lo ≤ c - lo; omega)
variable [Memo] [NY]
theorem JlV (gl : Gl) (st : St) (x : V) (l : List Wp) (hx : Vp st x l) (hl : l.length < 1000000) :
  ∃ v st', W Tryz.prog (.call gl 106 [x]) st = .call (.val v st') ∧ OwnP st.ctr st' v l ∧ Keep st st' := by
 refine J3 (NY.no _ rfl rfl rfl _ _) Tryz.func106 rfl (by kernel_rfl) ?_
 repeat refine Does.seq ?_
 refine Does.region ?_
 simp
 repeat refine Does.seq ?_
 refine Does.region ?_
 by_cases hn : x = .nils
 ·subst hn
  have hl0 : l = [] := by cases hx; rfl
  subst hl0
  have e1 : ∀ kk, Je Tryz.prog kk .eql 39 .nils .nils = some (.bool true) := fun kk => by cases kk <;> rfl
  simp [e1]
  repeat refine Does.seq ?_
  refine Does.condT (by simp) ?_
  repeat refine Does.seq ?_
  refine Does.region ?_
  simp
  refine Does.ret ?_
  simp
  exact ⟨⟨.inl ⟨rfl, rfl⟩⟩, .refl _⟩
 ·have e1 : Je Tryz.prog true .eql 39 x .nils = some (.bool false) := by
   cases hx with
   | nils => exact absurd rfl hn
   | sl l ex => rfl
   | ms => rfl
  have e2 : isK (.const (.slice none 0 0)) = true := rfl
  simp [e1, e2]
  repeat refine Does.seq ?_
  refine Does.condF (by simp) ?_
  refine Does.skip ?_
  simp
  repeat refine Does.seq ?_
  refine Does.region ?_
  have bs0 : Qc Tryz.prog 39 0 [] = some ([], 43, 3) := by kernel_rfl
  have hk0 := (Keep.refl st).new (.cells [] 43 true (some 0))
  have ho : OwnP st.ctr { ctr := st.ctr + 1, box := st.box.put st.ctr (.cells [] 43 true (some 0)) } (.ms st.ctr 0 0 3 (some 0)) [] :=
   ⟨.inr ⟨st.ctr, some 0, true, rfl, by rw [Tr.get_put, if_pos rfl]; rfl, Nat.le_refl _, Nat.lt_succ_self _, .inl rfl⟩⟩
  obtain ⟨y, st', ha, ho', hlow⟩ := ho.app (hx.keep hk0) (by simp; omega) (Nat.le_succ _)
  have hkk := hlow.keep hk0 (Nat.le_refl _)
  simp [Jv, Jx, bs0, JM, Qe, ha]
  refine Does.ret ?_
  simp
  exact ⟨by simpa using ho', hkk⟩
end Go.Vm
namespace Go.Vm
open Go Go.Proofs Go.Sy
set_option maxRecDepth 100000
attribute [local simp] Oks J8 Jj Jo vop Js Jy ev evs toV andThen inBlock Jn Fr.dsTo Fr.glTo Fr.toNone Jk Jl Jm J6 Jc Jz Jw V.undef JU J9 Qk
def Jft (nm : S) : List Wp → List Wp
 | [] => [⟨false, nm.app (S.ofList [61]), false⟩]
 | p :: r => if (!p.v && !p.q && !p.t.toList.isEmpty) = true then ⟨false, (nm.app (S.ofList [61])).app p.t, false⟩ :: r else ⟨false, nm.app (S.ofList [61]), false⟩ :: p :: r
theorem z31 : JR Tryz.prog 41 = some 2 := by kernel_rfl
theorem JkW : Q7 Tryz.prog 41 = some (.agg [.nils, .int .i64 0]) := by kernel_rfl
def Qd (st : St) (x : V) (a : Int) : St := { ctr := st.ctr + 1 + 1, box := (st.box.put st.ctr (.cells [x, .int .i64 a] 41 true (some 0))).put (st.ctr + 1) (.cells [.nils, .int .i64 0] 41 true (some 0)) }
theorem JlW (s : S) : JbO Tryz.prog 43 [(1, .str s)] = some (.agg [.bool false, .str s, .bool false]) := by kernel_rfl
def Je0 : List Wp → Bool
 | [] => false
 | p :: _ => !p.v && !p.q && !p.t.toList.isEmpty
def JpL (gl : Gl) (id4 id6 : Nat) (x : V) (l : List Wp) (st2 : St) (e : AE) (fr : Fr) (st' : St) : Prop := Jad st2 st' ∧ e = AE.normal ∧ fr.ds = [] ∧ fr.gl = gl ∧ Fr.at fr 4 = .ptr id4 0 ∧ Fr.at fr 5 = x ∧ Fr.at fr 6 = .ptr id6 0 ∧ Fr.at fr 35 = .bool (Je0 l)
def Jan (nq : S) : List Wp → List Wp
 | [] => [⟨false, nq, false⟩]
 | p :: r => if (!p.v && !p.q && !p.t.toList.isEmpty) = true then ⟨false, nq.app p.t, false⟩ :: r else ⟨false, nq, false⟩ :: p :: r
def JpM (gl : Gl) (id4 id6 : Nat) (st1 : St) (n : Nat) (res : List Wp) (e : AE) (fr : Fr) (st' : St) : Prop := e = AE.normal ∧ fr.ds = [] ∧ fr.gl = gl ∧ Fr.at fr 4 = .ptr id4 0 ∧ Fr.at fr 6 = .ptr id6 0 ∧ Keep st1 st' ∧ id6 < st'.ctr ∧
 ∃ q l' y, Fr.at fr 5 = y ∧ Vp st' y l' ∧ st'.box.get id6 = some (.cells [.bool false, .str q, .bool false] 43 true (some 0)) ∧ res = ⟨false, q, false⟩ :: l' ∧ l'.length ≤ n
theorem JlX (nq : S) {l : List Wp} (h : Je0 l = false) : Jan nq l = ⟨false, nq, false⟩ :: l := by
 cases l with
 | nil => rfl
 | cons p r =>
  unfold Je0 at h
  unfold Jan
  simp only [h]
  rfl
theorem Jj0 (nq : S) {p : Wp} {r : List Wp} (h : Je0 (p :: r) = true) : Jan nq (p :: r) = ⟨false, nq.app p.t, false⟩ :: r := by
 unfold Je0 at h
 unfold Jan
 simp only [h]
 rfl
theorem Jom (q : S) : Qc Tryz.prog 39 1 [(0, .agg [.bool false, .str q, .bool false])] = some ([.bool false, .str q, .bool false], 43, 3) := by kernel_rfl
theorem Jo4 {st : St} {z : V} {l : List Wp} (h : Vp st z l) : JbO Tryz.prog 41 [(0, z)] = some (.agg [z, .int .i64 0]) := by
 cases h <;> kernel_rfl
theorem a31 : QO Tryz.prog 41 = some true := by kernel_rfl
theorem JbE {st : St} {id : Nat} {x : V} {a : Int} {e : TypeId} {fl : Bool} {fz : Option Nat} (hb : st.box.get id = some (.cells [x, .int .i64 a] e fl fz)) : JB Tryz.prog st 41 (.ptr id 0) = some (.agg [x, .int .i64 a]) := by
 simp only [JB, hb, Q5, a31, z31]
 rfl
theorem OwnP.put {b : Nat} {st : St} {s : V} {l : List Wp} (h : OwnP b st s l) {id : Nat} (hid : id < b) (x : Bx) : OwnP b { st with box := st.box.put id x } s l := by
 rcases h.at' with h | ⟨i, cap, fl, rfl, hb, hbi, hi, hc⟩
 ·exact ⟨.inl h⟩
 ·exact ⟨.inr ⟨i, cap, fl, rfl, by rw [Tr.get_put, if_neg (by omega)]; exact hb, hbi, hi, hc⟩⟩
variable [Memo] [NY]
set_option maxHeartbeats 1000000 in
theorem JhT (gl : Gl) (st : St) (nm : S) (w : V) (l : List Wp) (hx : Wv st w l) (hl : l.length < 1000000) (hn : nm.n < 400000000) (hs : ∀ p ∈ l, p.t.n < 400000000) :
  ∃ v st', W Tryz.prog (.call gl 82 [.str nm, w]) st = .call (.val v st') ∧ Wv st' v (Jft nm l) ∧ Keep st st' := by
 obtain ⟨x, a, rfl, hx⟩ := hx
 have ox := hx.one
 have oi : ∀ k n, Ju (.int k n) = true := fun _ _ => rfl
 have lx := hx.len
 have on : Ju .nils = true := rfl
 refine J3 (NY.no _ rfl rfl rfl _ _) Tryz.func82 rfl (by kernel_rfl) ?_
 repeat refine Does.seq ?_
 refine Does.region ?_
 simp [Jv, V.cells, ox, oi, JM, JkW, on]
 have hk1 : Keep st (Qd st x a) := ((Keep.refl st).new _).new _
 have b3 : (Qd st x a).box.get st.ctr = some (.cells [x, .int .i64 a] 41 true (some 0)) := by unfold Qd; rw [Tr.get_put, if_neg (by omega), Tr.get_put, if_pos rfl]
 have b4 : (Qd st x a).box.get (st.ctr + 1) = some (.cells [.nils, .int .i64 0] 41 true (some 0)) := by unfold Qd; rw [Tr.get_put, if_pos rfl]
 have hct : st.ctr + 1 < (Qd st x a).ctr := Nat.lt_succ_self _
 have hcs : st.ctr ≤ st.ctr := Nat.le_refl _
 rw [show ({ ctr := st.ctr + 1 + 1, box := (st.box.put st.ctr (.cells [x, .int .i64 a] 41 true (some 0))).put (st.ctr + 1) (.cells [.nils, .int .i64 0] 41 true (some 0)) } : St) = Qd st x a from rfl]
 revert hk1 b3 b4 hct
 generalize Qd st x a = st1
 generalize hid : st.ctr = id3
 intro hk1 b3 b4 hct
 have f3 := wf0 id3
 have hx1 := hx.keep hk1
 have l1 := Jf (P := Tryz.prog) (off := 0) Jcn Jca b3 rfl
 repeat refine Does.seq ?_
 refine Does.region ?_
 simp [f3, l1]
 repeat refine Does.seq ?_
 refine Does.region ?_
 have h61 : (S.ofList [61]).n = 1 := by decide
 have hadd := JbI (P := Tryz.prog) (kk := true) (T := 9) (x := nm) (y := S.ofList [61]) (by omega)
 have hpn := QS st1 ⟨false, nm.app (S.ofList [61]), false⟩
 refine Oks.cont (Q := fun fr st' => st' = Q2 st1 ⟨false, nm.app (S.ofList [61]), false⟩ ∧ fr.ds = [] ∧ fr.gl = gl ∧ Fr.at fr 4 = .ptr (id3 + 1) 0 ∧ Fr.at fr 5 = x ∧ Fr.at fr 6 = .ptr st1.ctr 0) ?r2 ?rest
 case r2 => simp [isK, hadd, Jx, JlW, Jv, JQ, V.cells, Ju, JM, Qe, hpn]
 case rest =>
 rintro fr st' ⟨hst', hds, hg, h4, h5, h6⟩
 rw [hst']
 clear hst'
 simp only [andThen]
 have nk := Q3 st1 ⟨false, nm.app (S.ofList [61]), false⟩
 have nb := Jai st1 ⟨false, nm.app (S.ofList [61]), false⟩
 have nc := JaE st1 ⟨false, nm.app (S.ofList [61]), false⟩
 have hnm : (nm.app (S.ofList [61])).n = nm.n + 1 := rfl
 rw [show Jft nm l = Jan (nm.app (S.ofList [61])) l from by cases l <;> rfl]
 revert nk nb nc hnm
 generalize nm.app (S.ofList [61]) = nq
 generalize Q2 st1 ⟨false, nq, false⟩ = st2
 have hcc := hk1.ctr
 generalize hid6 : st1.ctr = id6 at hct hcc h6
 intro nk nb nc hnm
 have hk2 := hk1.trans nk
 have hx2 := hx1.keep nk
 repeat refine Does.seq ?_
 refine Does.mono (Q := JpL gl (id3 + 1) id6 x l st2) ?r3 ?t3
 case r3 => as_aux_lemma =>
  refine Does.region ?_
  have e0 : ∀ kk, Je Tryz.prog kk .gtr 3 (.int .i64 (l.length : Int)) (.int .i64 0) = some (.bool (decide (0 < l.length))) := fun kk => Jbd rfl
  refine Oks.cont (Q := fun fr st' => Jad st2 st' ∧ fr.ds = [] ∧ fr.gl = gl ∧ Fr.at fr 4 = .ptr (id3 + 1) 0 ∧ Fr.at fr 5 = x ∧ Fr.at fr 6 = .ptr id6 0 ∧ Fr.at fr 35 = .bool (Je0 l)) ?_ (fun fr st' h => ⟨h.1, rfl, h.2⟩)
  cases l with
  | nil =>
   have e1 : ∀ kk, Je Tryz.prog kk .gtr 3 (.int .i64 0) (.int .i64 0) = some (.bool false) := e0
   have lx' : QU Tryz.prog 39 x = some (.int .i64 0) := lx
   refine Oks.cut 11 (fun fr st' => Jad st2 st' ∧ fr.ds = [] ∧ fr.gl = gl ∧ Fr.at fr 4 = .ptr (id3 + 1) 0 ∧ Fr.at fr 5 = x ∧ Fr.at fr 6 = .ptr id6 0 ∧ Fr.at fr 22 = .bool false) ?c1 ?c2
   case c1 => as_aux_lemma =>
    simp only [List.take]
    simp [lx', e1, h4, h5, h6, hds, hg]
    exact rfl
   case c2 => as_aux_lemma =>
   clear hds hg h4 h5 h6
   rintro fr st' ⟨hst', hds, hg, h4, h5, h6, h22⟩
   rw [show st' = st2 from hst']
   clear hst'
   simp only [List.drop]
   simp [h22, h4, h5, h6, hds, hg]
   exact ⟨rfl, rfl⟩
  | cons p r =>
   rw [decide_eq_true (by simp)] at e0
   obtain ⟨pa, g3, g4⟩ := hx2.get (show 0 < (p :: r).length by simp)
   rw [show (p :: r).getD 0 default = p from rfl] at g4
   obtain ⟨_, ⟨p0, m0, n0⟩, ⟨p1, m1, n1⟩, ⟨p2, m2, n2⟩⟩ := g4.loads
   have i3 := g3 .i64
   simp only [Int.cast_ofNat_Int] at i3
   have ete := Jbi p.t
   rw [show Je0 (p :: r) = (!p.v && !p.q && !p.t.toList.isEmpty) from rfl]
   generalize p.t.toList.isEmpty = te at ete
   generalize (p :: r).length = ln at e0 lx
   generalize p.v = vv at n0
   generalize p.q = qq at n2
   generalize p.t = tt at n1 ete
   clear hs hl hx hx1 hx2 hadd hpn hk1 nk nb nc hnm hk2 g3 g4 b3 b4 l1 f3
   refine Oks.cut 11 (fun fr st' => Jad st2 st' ∧ fr.ds = [] ∧ fr.gl = gl ∧ Fr.at fr 4 = .ptr (id3 + 1) 0 ∧ Fr.at fr 5 = x ∧ Fr.at fr 6 = .ptr id6 0 ∧ Fr.at fr 22 = .bool (!vv)) ?c1 ?c2
   case c1 => as_aux_lemma =>
    simp only [List.take]
    simp [lx, e0, i3, m0, n0, h4, h5, h6, hds, hg]
    exact rfl
   case c2 => as_aux_lemma =>
   clear hds hg h4 h5 h6
   rintro fr st' ⟨hst', hds, hg, h4, h5, h6, h22⟩
   rw [show st' = st2 from hst']
   clear hst'
   refine Oks.cut 7 (fun fr st' => Jad st2 st' ∧ fr.ds = [] ∧ fr.gl = gl ∧ Fr.at fr 4 = .ptr (id3 + 1) 0 ∧ Fr.at fr 5 = x ∧ Fr.at fr 6 = .ptr id6 0 ∧ Fr.at fr 29 = .bool (!vv && !qq)) ?c3 ?c4
   case c3 => as_aux_lemma =>
    simp only [List.take, List.take_succ_cons, List.drop]
    cases vv <;> simp only [Bool.not_true, Bool.not_false] at h22
    ·simp [h22, i3, m2, n2, h4, h5, h6, hds, hg]
     exact rfl
    ·simp [h22, h4, h5, h6, hds, hg]
     exact rfl
   case c4 => as_aux_lemma =>
   clear hds hg h4 h5 h6 h22
   rintro fr st' ⟨hst', hds, hg, h4, h5, h6, h29⟩
   rw [show st' = st2 from hst']
   clear hst'
   simp only [List.drop, List.drop_succ_cons]
   generalize (!vv && !qq) = z at h29
   cases z
   ·simp [h29, h4, h5, h6, hds, hg]
    exact rfl
   ·simp [h29, i3, m1, n1, Jt, ete, h4, h5, h6, hds, hg]
    exact rfl
 case t3 => as_aux_lemma =>
  clear hds hg h4 h5 h6
  rintro e fr st' ⟨hst', rfl, hds, hg, h4, h5, h6, h35⟩
  rw [show st' = st2 from hst']
  clear hst'
  simp only [andThen]
  repeat refine Does.seq ?_
  refine Does.mono (Q := JpM gl (id3 + 1) id6 st1 l.length (Jan nq l)) ?c ?r
  case c => as_aux_lemma =>
   cases l with
   | nil =>
    refine Does.condF (by rw [show ev fr (.tmp 35) = some (Fr.at fr 35) from rfl, h35]; rfl) ?_
    refine Does.skip ?_
    exact ⟨rfl, hds, hg, h4, h6, nk, nc, nq, [], x, h5, hx2, nb, rfl, Nat.le_refl _⟩
   | cons p r =>
    cases hb : Je0 (p :: r) with
    | false =>
     rw [hb] at h35
     refine Does.condF (by simp [h35]) ?_
     refine Does.skip ?_
     refine ⟨rfl, hds, hg, h4, h6, nk, nc, nq, p :: r, x, h5, hx2, nb, ?_, Nat.le_refl _⟩
     exact JlX nq hb
    | true =>
     rw [hb] at h35
     refine Does.condT (by simp [h35]) ?_
     repeat refine Does.seq ?_
     refine Does.draw (b := [0, 1, 0, 4, 12, 28, 63, 127, 255]) (l := [0, 1, 2, 3, 4, 5, 6, 7, 8]) (by kernel_rfl) (by kernel_rfl) (by kernel_rfl) ?_
     have hkt := (Keep.refl st2).tick 9
     have hx3 := hx2.keep hkt
     have t1 := pg1 id6 0
     simp only [Nat.zero_add] at t1
     have r1 := (QZ (st := { ctr := st2.ctr + 9, box := st2.box }) (p := ⟨false, nq, false⟩) nb).2.1
     obtain ⟨pa, g3, g4⟩ := hx3.get (show 0 < (p :: r).length by simp)
     rw [show (p :: r).getD 0 default = p from rfl] at g4
     obtain ⟨_, _, ⟨p1, m1, n1⟩, _⟩ := g4.loads
     have i3 := g3 .i64
     simp only [Int.cast_ofNat_Int] at i3
     have hpn := hs p (by simp)
     have hadd := JbI (P := Tryz.prog) (kk := false) (T := 9) (x := nq) (y := p.t) (by omega)
     have hyes := Jj0 nq hb
     have hst := QB (P := Tryz.prog) (st := { ctr := st2.ctr + 9, box := st2.box }) (t := 9) (off := 1) (v := .str (nq.app p.t)) sz9 nb (by simp) rfl
     simp only [List.set_cons_succ, List.set_cons_zero] at hst
     simp only at r1 hst
     simp [JO, h5, h6, t1, r1, i3, m1, n1, isK, hadd, Qe, hst, JX]
     have hk3 : Keep st1 { ctr := st2.ctr + 9, box := st2.box.put id6 (.cells [.bool false, .str (nq.app p.t), .bool false] 43 true (some 0)) } := Keep.put (id := id6) (nk.tick 9) (by omega) _
     have nb3 : ({ ctr := st2.ctr + 9, box := st2.box.put id6 (.cells [.bool false, .str (nq.app p.t), .bool false] 43 true (some 0)) } : St).box.get id6 = some (.cells [.bool false, .str (nq.app p.t), .bool false] 43 true (some 0)) := by rw [Tr.get_put, if_pos rfl]
     have hc3 : id6 < ({ ctr := st2.ctr + 9, box := st2.box.put id6 (.cells [.bool false, .str (nq.app p.t), .bool false] 43 true (some 0)) } : St).ctr := Nat.lt_of_lt_of_le nc (Nat.le_add_right _ _)
     revert hk3 nb3 hc3
     generalize ({ ctr := st2.ctr + 9, box := st2.box.put id6 (.cells [.bool false, .str (nq.app p.t), .bool false] 43 true (some 0)) } : St) = st3
     intro hk3 nb3 hc3
     obtain ⟨y, hy1, hy2⟩ := (hx1.keep hk3).tail (lo := 1) (k := .i64) (by simp)
     rw [show ((1 : Nat) : Int) = 1 from rfl] at hy1
     refine Does.region ?_
     simp [h5, hy1]
     exact ⟨rfl, by simp [hds], by simp [hg], by simp [h4], by simp [h6], hk3, hc3, nq.app p.t, r, y, by simp, hy2, nb3, hyes, by omega⟩
  case r => as_aux_lemma =>
   clear hds hg h4 h5 h6 h35
   rintro e fr st3 ⟨rfl, hds, hg, h4, h6, hk3, hc3, q, l', y, h5, hy, nb3, hres, hlen⟩
   simp only [andThen]
   repeat refine Does.seq ?_
   refine Does.region ?_
   have hvl : JB Tryz.prog st3 43 (.ptr id6 0) = some (.agg [.bool false, .str q, .bool false]) := by
    have := (AdP.ptr (st := st3) ⟨false, q, false⟩ id6 0 _ [] 43 true (some 0) nb3 hc3 rfl).loads.1
    exact this
   have bs1 := Jom q
   have hk4 := hk3.new (.cells [.bool false, .str q, .bool false] 43 true (some 0))
   have ho : OwnP st3.ctr { ctr := st3.ctr + 1, box := st3.box.put st3.ctr (.cells [.bool false, .str q, .bool false] 43 true (some 0)) } (.ms st3.ctr 0 1 3 (some 1)) [⟨false, q, false⟩] :=
    ⟨.inr ⟨st3.ctr, some 1, true, rfl, by rw [Tr.get_put, if_pos rfl]; rfl, Nat.le_refl _, Nat.lt_succ_self _, .inl rfl⟩⟩
   obtain ⟨z, st4, ha, ho', hlow⟩ := ho.app (hy.keep ((Keep.refl st3).new _)) (by simp; omega) (Nat.le_succ _)
   have hz := Jo4 ho'.vp
   have oz := ho'.vp.one
   have hk5 : Keep st1 st4 := hlow.keep hk4 hk3.ctr
   have hs4 := QK (P := Tryz.prog) (l := [z, .int .i64 0]) z31 (show st4.box.get (id3 + 1) = _ by rw [hk5.box _ (by omega)]; exact b4) rfl rfl (by simp [oz, oi])
   have o3 : Ju (.bool false) = true := rfl
   have o4 : Ju (.str q) = true := rfl
   simp [h4, h5, h6, hvl, Jv, Jx, bs1, JM, o3, o4, Qe, ha, hz, hs4]
   have hld := JbE (st := { st4 with box := st4.box.put (id3 + 1) (.cells [z, .int .i64 0] 41 true (some 0)) }) (id := id3 + 1) (x := z) (a := 0) (e := 41) (fl := true) (fz := some 0) (by rw [Tr.get_put, if_pos rfl])
   have hk6 : Keep st { st4 with box := st4.box.put (id3 + 1) (.cells [z, .int .i64 0] 41 true (some 0)) } := Keep.put (hk1.trans hk5) (by omega) _
   have hfin := (ho'.put (id := id3 + 1) (by have := hk3.ctr; omega) (.cells [z, .int .i64 0] 41 true (some 0))).vp
   refine Does.ret ?_
   simp [hds, h4, hld]
   rw [hres]
   exact ⟨⟨z, 0, rfl, hfin⟩, hk6⟩
end Go.Vm
