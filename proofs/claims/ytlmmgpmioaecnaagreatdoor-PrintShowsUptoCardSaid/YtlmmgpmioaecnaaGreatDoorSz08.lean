/- strings.Join with any text between. -/
import Derived.Test.YtlmmgpmioaecnaaGreatDoorSz07
namespace Go.Vm
open Go Go.Proofs Go.Sy
set_option maxRecDepth 100000
attribute [local simp] OkG Ql QG OkD Qf J8 JT Jj Jo vop Js Jy ev evs toV Jn Fr.dsTo Fr.glTo Fr.toNone Jk Jl Jm J6 Qe Jc Jz Jw V.undef JU JO Qn Qo Qt Qp Qu Qv JN Qw Qx Qy J7 Qz Ji Jt JG Jq JI Jp JX J2 Jv JM JP JS JK
def J1 (sep : List UInt8) : List (List UInt8) → List UInt8
 | [] => []
 | a :: r => a ++ r.flatMap fun s => sep ++ s
theorem Jnt {n : Int} (h : 1 ≤ n) (h2 : n ≤ 1000) : ∃ q : Int, (∀ kk, Je Tryz.prog kk .quo 3 (.int .i64 9223372036854775807) (.int .i64 n) = some (.int .i64 q)) ∧ 1000000 < q := by
 have e : (9223372036854775807 : Int).tdiv n = 9223372036854775807 / n := Int.tdiv_eq_ediv_of_nonneg (by decide)
 have h3 : 2000000 ≤ (9223372036854775807 : Int) / n := Int.le_ediv_of_mul_le (by omega) (by omega)
 have h4 : (9223372036854775807 : Int) / n ≤ 9223372036854775807 := Int.ediv_le_self _ (by decide)
 refine ⟨9223372036854775807 / n, fun kk => ?_, by omega⟩
 rw [JhK (by omega), e, Jp (by omega) (by omega)]
theorem Ji3 {sep : List UInt8} {B : Nat} : ∀ (p : List S), (∀ s ∈ p, s.n ≤ B) → (p.flatMap fun s => sep ++ s.toList).length ≤ (sep.length + B) * p.length
 | [], _ => by simp
 | s :: p, h => by
  have := Ji3 (sep := sep) p fun t ht => h t (by simp [ht])
  have := h s (by simp)
  simp only [List.flatMap_cons, List.length_append, List.length_cons, S.len, Nat.mul_add]; omega
theorem Jh4 {sep : List UInt8} {p : List S} (h : 0 < p.length) : p[0].toList ++ ((p.drop 1).flatMap fun s => sep ++ s.toList) = J1 sep (p.map S.toList) := by
 cases p with
 | nil => simp at h
 | cons a r =>
  show _ = a.toList ++ (r.map S.toList).flatMap fun s => sep ++ s
  rw [List.flatMap_map]; rfl
theorem Jl6 {sep : List UInt8} {p : List S} (hs : sep ≠ []) (h : 2 ≤ p.length) : J1 sep (p.map S.toList) ≠ [] := by
 match p, h with
 | a :: b :: r, _ => simp [J1, hs]
variable [Memo] [NY] [NO]
set_option maxHeartbeats 4000000 in
set_option maxRecDepth 100000 in
omit [NO] in
theorem JfD (gl : Gl) (sep : S) (st : St) (x : V) (p : List S) (hx : Vw st x p) (hsep : 1 ≤ sep.n) (hsep2 : sep.n ≤ 10) (hp : p.length ≤ 1000) (hs : ∀ s ∈ p, s.n ≤ 1000000) :
  Says Tryz.prog gl 14 [x, .str sep] st (fun v st' => (∃ t : S, v = .str t ∧ t.toList = J1 sep.toList (p.map S.toList)) ∧ Keep st st') := by
 refine Qb (NY.no _ rfl rfl rfl _ _) Tryz.func14 rfl (by kernel_rfl) fun R hR K gr gn => ?_
 generalize hfr : JC gl [x, .str sep] = fr
 have hF : Fs gl [(0, x), (1, .str sep)] fr := by subst hfr; simp [Fs]
 simp only [Fs] at hF
 clear hfr
 have lx := hx.len Tryz.underlying31
 refine Ks_ (Ka_ (gs := [none]) fun K1 gK => ?_)
 simp (disch := omega) []
 refine gK _ _ (Ks_ (Ks_ (Ka_ (gs := [none, none]) fun K1 gK => ?_)))
 simp (disch := omega) [hF, lx]
 refine gK _ _ ?_
 refine Kb_ fun K1 gn1 gx1 go1 => ?_
 have gr1 := fun fr st h => go1 AE.ret fr st trivial (gr fr st h)
 refine Ks_ (Ka_ (gs := [none, none]) fun K1 gK => ?_)
 simp (disch := omega) []
 refine gK _ _ ?_
 by_cases h0 : p = []
 ·
  refine Kt_ (by simp (disch := omega) [h0]) (Ks_ (Ka_ (gs := [none]) fun K1 gK => ?_))
  simp (disch := omega) [h0]
  refine gK _ _ (Kq_ (gr1 _ _ ?_))
  simp [JW, Tryz.f14, hF]
  refine hR _ _ ?_
  exact ⟨⟨⟨0, 0⟩, by rfl, by rw [h0]; rfl⟩, .refl _⟩
 ·
  refine Kf_ (by simp (disch := omega) [h0]) (Ks_ (Ka_ (gs := [none, none]) fun K1 gK => ?_))
  simp (disch := omega) [h0]
  refine gK _ _ ?_
  by_cases h1 : p.length = 1
  ·
   refine Kt_ (by simp (disch := omega) [h1]) ?_
   have hxi := hx.ix Tryz.underlying31 z9 (k := .i64) (a := 0) (by omega) (by omega)
   have hxd := hx.ld z9 a9 (show 0 < p.length by omega)
   refine Ks_ (Ka_ (gs := [none, none, none, none]) fun K1 gK => ?_)
   simp (disch := omega) [hF, h1, hxi, hxd]
   refine gK _ _ (Kq_ (gr1 _ _ ?_))
   simp [JW, Tryz.f14, hF]
   refine hR _ _ ?_
   exact ⟨⟨p[0], rfl, by (match p, h1 with | [a], _ => simp [J1])⟩, .refl _⟩
  ·
   refine Kf_ (by simp (disch := omega) [h1]) ?_
   have h2 : 2 ≤ p.length := by (have : p.length ≠ 0 := fun h => h0 (List.length_eq_zero_iff.1 h)); omega
   obtain ⟨L, hL⟩ : ∃ L : Nat, p.length = L + 1 := ⟨p.length - 1, by omega⟩
   have hL' : (p.length : Int) - 1 = (L : Int) := by omega
   obtain ⟨q, hq, hq1⟩ := Jnt (n := (L : Int)) (by omega) (by omega)
   have sep1 := vlen9 sep
   have hgz : ∀ kk, Je Tryz.prog kk .gtr 3 (.int .i64 (sep.n : Int)) (.int .i64 0) = some (.bool true) := fun kk => by rw [JaQ, decide_eq_true (by omega)]
   have hge : ∀ kk, Je Tryz.prog kk .geq 3 (.int .i64 (sep.n : Int)) (.int .i64 q) = some (.bool false) := fun kk => by rw [JaR, decide_eq_false (by omega)]
   obtain ⟨M, hM⟩ : ∃ M : Nat, sep.n * L = M := ⟨_, rfl⟩
   have hMl : M ≤ 10 * 1000 := by rw [← hM]; exact Nat.mul_le_mul hsep2 (by omega)
   have hmul : ∀ kk, Je Tryz.prog kk .mul 3 (.int .i64 (sep.n : Int)) (.int .i64 (L : Int)) = some (.int .i64 (M : Int)) := fun kk => by
    have e : (sep.n : Int) * (L : Int) = (M : Int) := by rw [← hM]; simp
    rw [JaO, e, Jp (by omega) (by omega)]
   refine Kk_ (gn1 _ _ (Ks_ (Ka_ (gs := [none]) fun K1 gK => ?_)))
   simp (disch := omega) [h1]
   refine gK _ _ (Ks_ (Ks_ (Ka_ (gs := [none, none, none]) fun K1 gK => ?_)))
   simp (disch := omega) [hF, sep1, hgz]
   refine gK _ _ (Kt_ (by simp (disch := omega) []) (Ks_ (Ks_ (Ka_ (gs := [none, none, none, none, none, none, none]) fun K1 gK => ?_))))
   simp (disch := omega) [hF, lx, sep1, hL', hq, hge]
   refine gK _ _ (Kf_ (by simp (disch := omega) []) (Kk_ (Ka_ (gs := [none, none, none, none, none, none, none, none, none]) fun K1 gK => ?_)))
   simp (disch := omega) [hF, lx, sep1, hL', hmul]
   refine gK _ _ (Ks_ (Ks_ (Ka_ (gs := [none, none, none]) fun K1 gK => ?_)))
   simp (disch := omega) [hF, lx]
   refine gK _ _ ?_
   refine Kl_ (p.length) (fun i fr st' => Fs gl [(0, x), (1, .str sep), (5, .int .i64 ((M + Jgh (p.take i) : Nat) : Int)), (39, x), (40, .int .i64 (p.length : Int)), (41, .int .i64 (i : Int))] fr ∧ i ≤ p.length ∧ st = st') (0) (fun fr st' => Fs gl [(0, x), (1, .str sep), (5, .int .i64 ((M + Jgh p : Nat) : Int))] fr ∧ st = st') ?_ ?_ ?_ ?_
   ·exact ⟨by simp [Fs, hF, Jgh],  Nat.zero_le _, rfl⟩
   ·rintro i fr st' ⟨_, hi, rfl⟩
    omega
   ·as_aux_lemma =>
    clear hF
    rintro i fr st' ⟨hF, hi, rfl⟩ K2 gk2 gx2 go2
    simp only [Fs] at hF
    refine Ks_ (Ka_ (gs := [none]) fun K1 gK => ?_)
    simp (disch := omega) [hF]
    refine gK _ _ (Ks_ ?_)
    by_cases hlt : i < p.length
    ·
     refine Kt_ (by simp (disch := omega) [hlt]) ?_
     have hxi := hx.ix Tryz.underlying31 z9 (k := .i64) (a := (i : Int)) (by omega) (by omega)
     have hxd := hx.ld z9 a9 hlt
     have hsn := hs _ (List.getElem_mem hlt)
     have hbd := Jht (p.take i) fun s hm => hs s (List.mem_of_mem_take hm)
     rw [List.length_take, Nat.min_eq_left hi] at hbd
     have ls := QC Tryz.underlying9 (s := p[i])
     have hts := Jlo hlt
     generalize Jgh (p.take i) = W0 at hF hbd hts
     have hno : ∀ kk, Je Tryz.prog kk .gtr 3 (.int .i64 (p[i].n : Int)) (.int .i64 (9223372036854775807 - ((M : Int) + (W0 : Int)))) = some (.bool false) := fun kk => by rw [JaQ, decide_eq_false (by omega)]
     refine Kk_ (Ks_ ?_)
     refine Kb_ fun K3 gn3 gx3 go3 => ?_
     refine Ks_ (Ka_ (gs := [none, none, none]) fun K1 gK => ?_)
     simp (disch := omega) [hF, hlt, hxi, hxd]
     refine gK _ _ (Ks_ (Ks_ (Ka_ (gs := [none, none, none, none, none]) fun K1 gK => ?_)))
     simp (disch := omega) [hF, ls, hno]
     refine gK _ _ (Kf_ (by simp (disch := omega) []) (Kk_ (Ka_ (gs := [none, none, none, none, none]) fun K1 gK => ?_)))
     simp (disch := omega) [hF, ls]
     refine gK _ _ (gn3 _ _ (Ka_ (gs := [none, none]) fun K1 gK => ?_))
     simp (disch := omega) [hF]
     refine gK _ _ ?_
     refine gk2 (i + 1) _ _ (by omega) ⟨by (rw [hts]; simp [Fs, hF]; omega),  by omega, rfl⟩
    ·
     refine Kf_ (by simp (disch := omega) [hlt]) ?_
     exact Kx_ (gx2 _ _ ⟨by (rw [List.take_of_length_le (by omega)] at hF; simp [Fs, hF]),  rfl⟩)
   ·as_aux_lemma =>
    clear hF
    rintro fr st' ⟨hF, rfl⟩
    simp only [Fs] at hF
    have hbd := Jht p hs
    generalize hW : Jgh p = W0 at hF hbd
    have hML : 0 < M := by rw [← hM]; exact Nat.mul_pos (by omega) (by omega)
    have hb0 : ({ ctr := st.ctr + 1, box := st.box.put st.ctr (.cells [.nilp, .nils] 68 true (some 0)) } : St) = st.new (.cells [.nilp, .nils] 68 true (some 0)) := rfl
    have kn := (Keep.refl st).new' (.cells [.nilp, .nils] 68 true (some 0))
    have bn : (st.new (.cells [.nilp, .nils] 68 true (some 0))).box.get st.ctr = some (.cells [.nilp, .nils] 68 true (some 0)) := by rw [Q9, if_pos rfl]
    have cn : (st.new (.cells [.nilp, .nils] 68 true (some 0))).ctr = st.ctr + 1 := rfl
    generalize st.new (.cells [.nilp, .nils] 68 true (some 0)) = q1 at hb0 kn bn cn
    obtain ⟨v, q2, hcg, hbl, hc2, ho2⟩ := Says.use (Jml gl q1 st.ctr (M + W0) (by omega) (by omega) (by omega) bn)
    have k2 : Keep st q2 := ⟨by omega, fun i hi => by rw [ho2 i (by omega) (by omega)]; exact kn.box i hi⟩
    have hx2 := hx.keep k2
    have hxi := hx2.ix Tryz.underlying31 z9 (k := .i64) (a := 0) (by omega) (by omega)
    have hxd := hx2.ld z9 a9 (show 0 < p.length by omega)
    have hs0 := hs _ (List.getElem_mem (show 0 < p.length by omega))
    obtain ⟨v2, q3, hcw, hbl3, hl3⟩ := Says.use (JfP gl q2 st.ctr st.ctr [] p[0] hbl (by simp; omega))
    have k3 : Keep st q3 := hl3.keep k2 (Nat.le_refl _)
    obtain ⟨y, hy, hvy0⟩ := JpY hx (by omega)
    have hvy := hvy0.keep k3
    have lly := hvy.len Tryz.underlying31
    have hdl : (p.drop 1).length = L := by simp; omega
    rw [hdl] at lly
    have hcg' : JaA Tryz.prog (ihCall (W Tryz.prog)) gl 31 [.ptr st.ctr 0, .int .i64 ((M : Int) + (W0 : Int))] q1 = .val v q2 := hcg
    refine Ks_ (Ka_ (gs := [none]) fun K1 gK => ?_)
    simp (disch := omega) [Q8, hb0, Ju]
    refine gK _ _ (Ks_ (Ka_ (gs := [none, none]) fun K1 gK => ?_))
    simp (disch := omega) [hF, hcg']
    refine gK _ _ (Ks_ (Ka_ (gs := [none, none, none, none]) fun K1 gK => ?_))
    simp (disch := omega) [hF, hxi, hxd, hcw]
    refine gK _ _ (Ks_ (Ks_ (Ka_ (gs := [none, none, none, none]) fun K1 gK => ?_)))
    simp (disch := omega) [hF, hy, lly]
    refine gK _ _ ?_
    refine Kl_ (L) (fun i fr st' => Fs gl [(1, .str sep), (8, .ptr st.ctr 0), (63, y), (64, .int .i64 (L : Int)), (65, .int .i64 (i : Int))] fr ∧ i ≤ L ∧ Keep st st' ∧ Bld st.ctr st.ctr st' (p[0].toList ++ ((p.drop 1).take i).flatMap fun s => sep.toList ++ s.toList)) (0) (fun fr st' => Fs gl [(8, .ptr st.ctr 0)] fr ∧ Keep st st' ∧ Bld st.ctr st.ctr st' (J1 sep.toList (p.map S.toList))) ?_ ?_ ?_ ?_
    ·exact ⟨by simp [Fs, hF], Nat.zero_le _, k3, by simpa using hbl3⟩
    ·rintro i fr st' ⟨_, hi, hk, hbl⟩
     omega
    ·as_aux_lemma =>
     clear hF
     rintro i fr st' ⟨hF, hi, hk, hbl⟩ K4 gk4 gx4 go4
     simp only [Fs] at hF
     refine Ks_ (Ka_ (gs := [none]) fun K1 gK => ?_)
     simp (disch := omega) [hF]
     refine gK _ _ (Ks_ ?_)
     by_cases hlt : i < L
     ·
      refine Kt_ (by simp (disch := omega) [hlt]) ?_
      have hlt' : i < (p.drop 1).length := by omega
      have hvy := hvy0.keep hk
      have hyi := hvy.ix Tryz.underlying31 z9 (k := .i64) (a := (i : Int)) (by omega) (by omega)
      have hyd := hvy.ld z9 a9 hlt'
      have hsi := hs _ (List.mem_of_mem_drop (List.getElem_mem hlt'))
      have hpl := Ji3 (sep := sep.toList) ((p.drop 1).take i) fun s hm => hs s (List.mem_of_mem_drop (List.mem_of_mem_take hm))
      have hs00 := hs _ (List.getElem_mem (show 0 < p.length by omega))
      have hcl : (p[0].toList ++ ((p.drop 1).take i).flatMap fun s => sep.toList ++ s.toList).length ≤ 2000000000 := by
       rw [List.length_append, S.len]
       rw [S.len] at hpl
       have h4 : (sep.n + 1000000) * ((p.drop 1).take i).length ≤ 1000010 * 1000 := Nat.mul_le_mul (by omega) (by rw [List.length_take]; omega)
       omega
      generalize hacc : (p[0].toList ++ ((p.drop 1).take i).flatMap fun s => sep.toList ++ s.toList) = acc at hbl hcl
      obtain ⟨v4, q5, hw1, hb5, hl5⟩ := Says.use (JfP gl st' st.ctr st.ctr acc sep hbl (by omega))
      obtain ⟨v5, q6, hw2, hb6, hl6⟩ := Says.use (JfP gl q5 st.ctr st.ctr _ (p.drop 1)[i] hb5 (by rw [List.length_append, S.len]; omega))
      have k6 : Keep st q6 := (hl5.trans hl6).keep hk (Nat.le_refl _)
      have hnm : (p.drop 1)[i] = p[i + 1]'(by omega) := by simp
      rw [hnm] at hyd hw2
      have hft : ((p.drop 1).take (i + 1)).flatMap (fun s => sep.toList ++ s.toList) = ((p.drop 1).take i).flatMap (fun s => sep.toList ++ s.toList) ++ (sep.toList ++ (p.drop 1)[i].toList) := by
       rw [List.take_add_one, List.getElem?_eq_getElem hlt', List.flatMap_append]; simp
      refine Kk_ (Ks_ ?_)
      refine Kb_ fun K5 gn5 gx5 go5 => ?_
      refine Ks_ (Ka_ (gs := [none, none, none]) fun K1 gK => ?_)
      simp (disch := omega) [hF, hlt, hyi, hyd]
      refine gK _ _ (Ks_ (Ka_ (gs := [none, none]) fun K1 gK => ?_))
      simp (disch := omega) [hF, hw1]
      refine gK _ _ (Ka_ (gs := [none, none]) fun K1 gK => ?_)
      simp (disch := omega) [hF, hw2]
      refine gK _ _ (gn5 _ _ (Ka_ (gs := [none, none]) fun K1 gK => ?_))
      simp (disch := omega) [hF]
      refine gK _ _ ?_
      refine gk4 (i + 1) _ _ (by omega) ⟨by simp [Fs, hF], by omega, k6, by (rw [hft, ← List.append_assoc, hacc, ← List.append_assoc]; exact hb6)⟩
     ·
      refine Kf_ (by simp (disch := omega) [hlt]) ?_
      exact Kx_ (gx4 _ _ ⟨by simp [Fs, hF, hlt], hk, by (rw [List.take_of_length_le (by omega), Jh4 (by omega)] at hbl; exact hbl)⟩)
    ·as_aux_lemma =>
     clear hF
     rintro fr st' ⟨hF, hk, hbl⟩
     simp only [Fs] at hF
     have hjl : (J1 sep.toList (p.map S.toList)).length ≤ 1000000000000 := by
      rw [← Jh4 (by omega), List.length_append, S.len]
      have hpl := Ji3 (sep := sep.toList) (p.drop 1) fun s hm => hs s (List.mem_of_mem_drop hm)
      rw [S.len] at hpl
      have h4 : (sep.n + 1000000) * (p.drop 1).length ≤ 1000010 * 1000 := Nat.mul_le_mul (by omega) (by omega)
      omega
     have hjn := Jl6 (sep := sep.toList) (fun e => by have := congrArg List.length e; rw [S.len] at this; simp at this; omega) h2
     obtain ⟨v3, q4, hst, ⟨t, rfl, ht⟩, hl4⟩ := Says.use (JgJ gl st' st.ctr st.ctr (J1 sep.toList (p.map S.toList)) hbl hjl hjn)
     refine Ks_ (Ka_ (gs := [none, none]) fun K1 gK => ?_)
     simp (disch := omega) [hF, hst]
     refine gK _ _ (Kq_ (gr _ _ ?_))
     simp [JW, Tryz.f14, hF]
     refine hR _ _ ?_
     exact ⟨⟨t, rfl, ht⟩, hl4.keep hk (Nat.le_refl _)⟩
end Go.Vm
namespace Go.Vm
open Go Go.Proofs Go.Sy
set_option maxRecDepth 100000
attribute [local simp] OkG Ql QG OkD Qf J8 JT Jj Jo vop Js Jy ev evs toV Jn Fr.dsTo Fr.glTo Fr.toNone Jk Jl Jm J6 Qe Jc Jz Jw V.undef JU JO Qn Qo Qt Qp Qu Qv JN Qw Qx Qy J7 Qz Ji Jt JG Jq JI Jp JX J2 Jv JM JP JS JK
structure WsR (st : St) (x : V) (css : List (List V)) (wl : List (List Wp)) : Prop where
 s : Sv 2 st x css
 l : css.length = wl.length
 r : ∀ i (h : i < css.length) (h' : i < wl.length), Wv st (.agg css[i]) wl[i]
theorem WsR.keep {st st' : St} {x : V} {css : List (List V)} {wl : List (List Wp)} (h : WsR st x css wl) (k : Keep st st') : WsR st' x css wl := ⟨h.s.keep k, h.l, fun i a b => (h.r i a b).keep k⟩
theorem Wv.cells {st : St} {cs : List V} {l : List Wp} (h : Wv st (.agg cs) l) : cs.length = 2 ∧ cs.all Ju = true := by
 obtain ⟨x, a, e, hx⟩ := h
 cases e
 exact ⟨rfl, by simp only [List.all_cons, hx.one]; rfl⟩
theorem Row.wsr {x : V} {ws : List Ww} (h : Row Ww.cells x ws) (hok : ∀ w ∈ ws, w.ok) (st : St) : WsR st x (ws.map Ww.cells) (ws.map Ww.l) := by
 refine ⟨?_, by simp, fun i h1 h2 => ?_⟩
 ·cases h with
  | nils => exact .nils
  | sl l ex =>
   have := Sv.sl (z := 2) (st := st) (ws.map Ww.cells) ex (fun c hc => by obtain ⟨w, _, rfl⟩ := List.mem_map.1 hc; rfl)
   rw [List.length_map, ← List.flatMap_def] at this
   exact this
 ·rw [List.getElem_map, List.getElem_map]
  exact ⟨_, _, rfl, Row.vp (hok _ (List.getElem_mem _)) st⟩
theorem Jo9 (st : St) {cs : List V} (hl : cs.length = 2) (ho : cs.all Ju = true) : ∃ w w2 : St, ({ ctr := st.ctr + 1, box := st.box.put st.ctr (.cells [.nils, .int .i64 0] 41 true (some 0)) } : St) = w ∧ JaN Tryz.prog w 41 (.ptr st.ctr 0) (.agg cs) = some w2 ∧ w2.box.get st.ctr = some (.cells cs 41 true (some 0)) ∧ Keep st w2 ∧ st.ctr < w2.ctr := by
 have kw := JL st [.nils, .int .i64 0] 41
 have bw := Jaf st [.nils, .int .i64 0] 41
 have cw := Jae st [.nils, .int .i64 0] 41
 refine ⟨_, _, JZ st [.nils, .int .i64 0] 41, QK z41 bw rfl hl ho, by (show ((QM st [.nils, .int .i64 0] 41).box.put _ _).get _ = _; rw [Tr.get_put, if_pos rfl]), ⟨by show st.ctr ≤ (QM st [.nils, .int .i64 0] 41).ctr; omega, fun j hj => ?_⟩, by show st.ctr < (QM st [.nils, .int .i64 0] 41).ctr; omega⟩
 show ((QM st [.nils, .int .i64 0] 41).box.put _ _).get _ = _
 rw [Tr.get_put, if_neg (by omega), kw.box j hj]
theorem JpN {st : St} {id : Nat} {cs : List V} {e : TypeId} {fl : Bool} {fz : Option Nat} (hb : st.box.get id = some (.cells cs e fl fz)) (hl : cs.length = 2) : JB Tryz.prog st 41 (.ptr id 0) = some (.agg cs) := by
 match cs, hl with
 | [x, y], _ => exact JfQ hb
theorem Jbt (cs : List V) : (V.agg cs).cells = cs := rfl
theorem JfE (sep : List UInt8) : ∀ (l : List (List UInt8)) (a : List UInt8), J1 sep (l ++ [a]) = cond l.isEmpty a (J1 sep l ++ (sep ++ a))
 | [], a => by simp [J1]
 | b :: l, a => by simp [J1]
theorem JkZ (sep : List UInt8) {B : Nat} : ∀ l : List (List UInt8), (∀ a ∈ l, a.length ≤ B) → (J1 sep l).length ≤ (sep.length + B) * l.length
 | [], _ => by simp [J1]
 | a :: l, h => by
  have h1 := h a (by simp)
  have h2 : ∀ m : List (List UInt8), (∀ a ∈ m, a.length ≤ B) → (m.flatMap fun s => sep ++ s).length ≤ (sep.length + B) * m.length := fun m => by
   induction m with
   | nil => intro _; simp
   | cons b m ih =>
    intro h
    have := ih fun a ha => h a (by simp [ha])
    have := h b (by simp)
    simp only [List.flatMap_cons, List.length_append, List.length_cons, Nat.mul_add]; omega
  have := h2 l fun b hb => h b (by simp [hb])
  simp only [J1, List.length_append, List.length_cons, Nat.mul_add]; omega
def WsS (wl : List (List Wp)) : Prop := wl.length ≤ 900 ∧ ∀ l ∈ wl, l.length ≤ 1000 ∧ (∀ p ∈ l, p.t.n ≤ 100000) ∧ (wTxt l).length ≤ 1000000
theorem Jcl {α β : Type} (f : α → β) (l : List α) {i : Nat} (h : i < l.length) : (l.take (i + 1)).map f = (l.take i).map f ++ [f l[i]] := by
 rw [List.take_add_one, List.getElem?_eq_getElem h, Option.toList_some, List.map_append]; rfl
theorem JfF {α β : Type} (f : α → β) (l : List α) {i : Nat} (h : i < l.length) (h0 : 0 < i) : ((l.take i).map f).isEmpty = false := by
 match l, i, h0 with
 | a :: l, n + 1, _ => rfl
variable [Memo] [NY] [NO]
set_option maxHeartbeats 4000000 in
set_option maxRecDepth 100000 in
theorem JfG (gl : Gl) {aL : List V} (hh : Hits gl aL) (st : St) (x : V) (css : List (List V)) (wl : List (List Wp)) (hx : WsR st x css wl) (hs : WsS wl) :
  Says Tryz.prog gl 60 [x] st (fun v st' => (∃ z : S, v = .str z ∧ z.toList = J1 [32] (wl.map wTxt)) ∧ Keep st st') := by
 refine Qb (NY.no _ rfl rfl rfl _ _) Tryz.func60 rfl (by kernel_rfl) fun R hR K gr gn => ?_
 generalize hfr : JC gl [x] = fr
 have hF : Fs gl [(0, x)] fr := by subst hfr; simp [Fs]
 simp only [Fs] at hF
 clear hfr
 have lx := hx.s.len Tryz.underlying22
 rw [hx.l] at lx
 obtain ⟨hs1, hs2⟩ := hs
 refine Ks_ (Ka_ (gs := [none]) fun K1 gK => ?_)
 simp (disch := omega) []
 refine gK _ _ (Ks_ (Ka_ (gs := [none]) fun K1 gK => ?_))
 simp (disch := omega) []
 refine gK _ _ (Ks_ (Ks_ (Ka_ (gs := [none, none, none]) fun K1 gK => ?_)))
 simp (disch := omega) [hF, lx]
 refine gK _ _ ?_
 refine Kl_ (wl.length) (fun i fr st' => ∃ (out : V) (ts : List S), Fs gl [(3, out), (8, x), (9, .int .i64 (wl.length : Int)), (10, .int .i64 (i : Int))] fr ∧ i ≤ wl.length ∧ Keep st st' ∧ Mine st.ctr 9 st' out (ts.map .str) ∧ ts.map S.toList = (wl.take i).map wTxt) (0) (fun fr st' => ∃ (out : V) (ts : List S), Fs gl [(3, out)] fr ∧ Keep st st' ∧ Mine st.ctr 9 st' out (ts.map .str) ∧ ts.map S.toList = wl.map wTxt) ?_ ?_ ?_ ?_
 ·exact ⟨.nils, [], by simp [Fs, hF], Nat.zero_le _, .refl _, .nils, rfl⟩
 ·rintro i fr st' ⟨out, ts, _, hi, hk, hm, hts⟩
  omega
 ·as_aux_lemma =>
  clear hF
  rintro i fr st' ⟨out, ts, hF, hi, hk, hm, hts⟩ K1 gk1 gx1 go1
  simp only [Fs] at hF
  refine Ks_ (Ka_ (gs := [none]) fun K1 gK => ?_)
  simp (disch := omega) [hF]
  refine gK _ _ (Ks_ ?_)
  by_cases hlt : i < wl.length
  ·
   refine Kt_ (by simp (disch := omega) [hlt]) ?_
   have hls : i < css.length := by rw [hx.l]; exact hlt
   have hk' := hx.keep hk
   have x1 := hx.s.ix Tryz.underlying22 z41 (k := .i64) (a := (i : Int)) (by omega) (by omega)
   have x2 := hk'.s.ld z41 a41 hls
   have hw := hk'.r i hls hlt
   obtain ⟨hwl, hwo⟩ := hw.cells
   obtain ⟨w, w2, ew, hsw, bw2, kw2, cw2⟩ := Jo9 st' hwl hwo
   have l1 := JpN bw2 hwl
   obtain ⟨q1, q2, q3⟩ := hs2 _ (List.getElem_mem hlt)
   obtain ⟨v, s3, hc, ⟨z, rfl, hz⟩, k3⟩ := Says.use (Jmn gl hh w2 (.agg css[i]) wl[i] (hw.keep kw2) q1 q2)
   obtain ⟨u, hu⟩ : ∃ q, q = s3.new (.cells [.str z] 9 true (some 0)) := ⟨_, rfl⟩
   have ku : Keep s3 u := by rw [hu]; exact (Keep.refl s3).new' _
   have cu : u.ctr = s3.ctr + 1 := by rw [hu]; rfl
   have gu : u.box.get s3.ctr = some (.cells [.str z] 9 true (some 0)) := by rw [hu, Q9, if_pos rfl]
   have hfu : ({ ctr := s3.ctr + 1, box := s3.box.put s3.ctr (.cells [.str z] 9 true (some 0)) } : St) = u := by rw [hu]; rfl
   clear hu
   have ks := kw2.trans (k3.trans ku)
   have kc := hk.ctr
   have ksc := ks.ctr
   have htl : ts.length = i := by
    have := congrArg List.length hts
    rw [List.length_map, List.length_map, List.length_take, Nat.min_eq_left hi] at this
    exact this
   obtain ⟨y, s4, e4, low4, m4, _⟩ := JfL (hm.keep ks) ((JgI (lo := 0) (by omega) (by omega) gu).src rfl) (by omega) (by simp; omega)
   simp only [List.length_cons, List.length_nil] at e4
   refine Kk_ (Ks_ ?_)
   refine Kb_ fun K2 gn2 gx2 go2 => ?_
   refine Ks_ (Ka_ (gs := [none, none, none, none]) fun K1 gK => ?_)
   simp (disch := omega) [hF, hlt, x1, x2, Jbw, ew, hsw, Ju]
   refine gK _ _ (Ks_ (Ka_ (gs := [none, none, none, none, none, none, none]) fun K1 gK => ?_))
   simp (disch := omega) [hF, l1, hc]
   refine gK _ _ (Ka_ (gs := [none, none, none, none, none]) fun K1 gK => ?_)
   simp (disch := omega) [hF, bs1, hfu, e4, Jx, Ju]
   refine gK _ _ (gn2 _ _ (Ka_ (gs := [none, none]) fun K1 gK => ?_))
   simp (disch := omega) [hF]
   refine gK _ _ ?_
   refine gk1 (i + 1) _ _ (by omega) ⟨y, ts ++ [z], by simp [Fs, hF], by omega, Low.keep low4 (hk.trans ks) (by omega), by simpa using m4, by (rw [List.map_append, hts, Jcl wTxt wl hlt, List.map_cons, hz]; rfl)⟩
  ·
   refine Kf_ (by simp (disch := omega) [hlt]) ?_
   exact Kx_ (gx1 _ _ ⟨out, ts, by simp [Fs, hF, hlt], hk, hm, by (rw [hts, List.take_of_length_le (by omega)])⟩)
 ·as_aux_lemma =>
  clear hF
  rintro fr st' ⟨out, ts, hF, hk, hm, hts⟩
  simp only [Fs] at hF
  have htl : ts.length = wl.length := by
   have := congrArg List.length hts
   simpa using this
  obtain ⟨v, s5, hj, ⟨z, rfl, hz⟩, k5⟩ := Says.use (JfD gl (S.ofList [32]) st' out ts hm.vw (Nat.le_refl 1) (by rw [Jb]; simp) (by omega) (fun s hs => by
   have h1 : s.toList ∈ wl.map wTxt := by rw [← hts]; exact List.mem_map.2 ⟨s, hs, rfl⟩
   obtain ⟨l, hl, he⟩ := List.mem_map.1 h1
   rw [← S.len, ← he]; exact (hs2 l hl).2.2)) (by kernel_rfl)
  refine Ks_ (Ka_ (gs := [none, none, none]) fun K1 gK => ?_)
  simp (disch := omega) [hF, hj]
  refine gK _ _ (Kq_ (gr _ _ ?_))
  simp [JW, Tryz.f60, hF]
  refine hR _ _ ?_
  exact ⟨⟨z, rfl, by rw [hz, S.toList_ofList, hts]⟩, hk.trans k5⟩
set_option maxHeartbeats 4000000 in
set_option maxRecDepth 100000 in
omit [NO] in
theorem JdC (gl : Gl) (st : St) (x : V) (css : List (List V)) (wl : List (List Wp)) (hx : WsR st x css wl) (hs : WsS wl) :
  Says Tryz.prog gl 39 [x] st (fun v st' => (∃ z : S, v = .str z ∧ z.toList = J1 [32] (wl.map wTxt)) ∧ Keep st st') := by
 refine Qb (NY.no _ rfl rfl rfl _ _) Tryz.func39 rfl (by kernel_rfl) fun R hR K gr gn => ?_
 generalize hfr : JC gl [x] = fr
 have hF : Fs gl [(0, x)] fr := by subst hfr; simp [Fs]
 simp only [Fs] at hF
 clear hfr
 have lx := hx.s.len Tryz.underlying22
 rw [hx.l] at lx
 obtain ⟨hs1, hs2⟩ := hs
 refine Ks_ (Ka_ (gs := [none]) fun K1 gK => ?_)
 simp (disch := omega) []
 refine gK _ _ (Ks_ (Ka_ (gs := [none]) fun K1 gK => ?_))
 simp (disch := omega) []
 refine gK _ _ (Ks_ (Ks_ (Ka_ (gs := [none]) fun K1 gK => ?_)))
 simp (disch := omega) []
 refine gK _ _ ?_
 refine Kl_ (wl.length) (fun i fr st' => ∃ (acc : S), Fs gl [(0, x), (3, .str acc), (4, .int .i64 (i : Int))] fr ∧ i ≤ wl.length ∧ Keep st st' ∧ acc.toList = J1 [32] ((wl.take i).map wTxt) ∧ acc.n ≤ 1000001 * i) (0) (fun fr st' => ∃ (acc : S), Fs gl [(3, .str acc)] fr ∧ Keep st st' ∧ acc.toList = J1 [32] (wl.map wTxt)) ?_ ?_ ?_ ?_
 ·exact ⟨⟨0, 0⟩, by simp [Fs, hF, S.ofList, enc],  Nat.zero_le _, .refl _, rfl, Nat.le_refl _⟩
 ·rintro i fr st' ⟨acc, _, hi, hk, hacc, hal⟩
  omega
 ·as_aux_lemma =>
  clear hF
  rintro i fr st' ⟨acc, hF, hi, hk, hacc, hal⟩ K3 gk3 gx3 go3
  simp only [Fs] at hF
  refine Ks_ (Ks_ (Ka_ (gs := [none, none, none, none]) fun K1 gK => ?_))
  simp (disch := omega) [hF, lx]
  refine gK _ _ ?_
  by_cases hlt : i < wl.length
  ·
   refine Kt_ (by simp (disch := omega) [hlt]) ?_
   have hls : i < css.length := by rw [hx.l]; exact hlt
   have hk' := hx.keep hk
   have x1 := hx.s.ix Tryz.underlying22 z41 (k := .i64) (a := (i : Int)) (by omega) (by omega)
   have x2 := hk'.s.ld z41 a41 hls
   have hw := hk'.r i hls hlt
   obtain ⟨q1, q2, q3⟩ := hs2 _ (List.getElem_mem hlt)
   obtain ⟨v, s3, hc, ⟨z, rfl, hz⟩, k3⟩ := Says.use (Jmo gl st' (.agg css[i]) wl[i] hw q1 q2)
   have hzn : z.n ≤ 1000000 := by rw [← S.len, hz]; exact q3
   have hsn := JfE [32] ((wl.take i).map wTxt) (wTxt wl[i])
   rw [← Jcl wTxt wl hlt] at hsn
   have ad1 : ∀ kk, Je Tryz.prog kk .add 9 (.str acc) (.str (S.ofList [32])) = some (.str (acc.app (S.ofList [32]))) := fun kk => QQ (by rw [Jb]; simp; omega)
   have ad2 : ∀ kk, Je Tryz.prog kk .add 9 (.str acc) (.str z) = some (.str (acc.app z)) := fun kk => QQ (by omega)
   have ad3 : ∀ kk, Je Tryz.prog kk .add 9 (.str (acc.app (S.ofList [32]))) (.str z) = some (.str ((acc.app (S.ofList [32])).app z)) := fun kk => QQ (by rw [Jby, Jb]; simp; omega)
   have hgt : ∀ kk, Je Tryz.prog kk .gtr 3 (.int .i64 (i : Int)) (.int .i64 0) = some (.bool (decide (0 < i))) := fun kk => by rw [JaQ]; congr 2; simp
   refine Kk_ (Ks_ ?_)
   refine Kb_ fun K4 gn4 gx4 go4 => ?_
   refine Ks_ (Ka_ (gs := [none, none, none, none, none, none, none, none, none, none]) fun K1 gK => ?_)
   simp (disch := omega) [hF, hlt, x1, x2, hc]
   refine gK _ _ (Ks_ (Ks_ (Ka_ (gs := [none, none]) fun K1 gK => ?_)))
   simp (disch := omega) [hF, hgt]
   refine gK _ _ ?_
   by_cases h0 : 0 < i
   ·
    refine Kt_ (by simp (disch := omega) [h0]) (Ka_ (gs := [none, none, none]) fun K1 gK => ?_)
    simp (disch := omega) [hF, ad1, h0]
    refine gK _ _ (Ka_ (gs := [none, none, none, none]) fun K1 gK => ?_)
    simp (disch := omega) [ad3]
    refine gK _ _ (gn4 _ _ (Ka_ (gs := [none, none, none]) fun K1 gK => ?_))
    simp (disch := omega) [hF]
    refine gK _ _ ?_
    refine gk3 (i + 1) _ _ (by omega) ⟨(acc.app (S.ofList [32])).app z, by simp [Fs, hF], by omega, hk.trans k3, by (rw [hsn, S.toList_app, S.toList_app, S.toList_ofList, hacc, hz]; rw [JfF wTxt wl hlt h0]; exact List.append_assoc _ _ _), by (rw [Jby, Jby, Jb]; simp; omega)⟩
   ·
    refine Kf_ (by simp (disch := omega) [h0]) ?_
    have hi0 : i = 0 := by omega
    subst hi0
    refine Kk_ (Ka_ (gs := [none, none, none, none]) fun K1 gK => ?_)
    simp (disch := omega) [hF, ad2, h0]
    refine gK _ _ (gn4 _ _ (Ka_ (gs := [none, none, none]) fun K1 gK => ?_))
    simp (disch := omega) [hF]
    refine gK _ _ ?_
    refine gk3 (0 + 1) _ _ (by omega) ⟨acc.app z, by simp [Fs, hF], by omega, hk.trans k3, by (rw [hsn, S.toList_app, hacc, hz]; rfl), by (rw [Jby]; omega)⟩
  ·
   refine Kf_ (by simp (disch := omega) [hlt]) ?_
   exact Kx_ (gx3 _ _ ⟨acc, by simp [Fs, hF, hlt], hk, by (rw [hacc, List.take_of_length_le (by omega)])⟩)
 ·as_aux_lemma =>
  clear hF
  rintro fr st' ⟨acc, hF, hk, hacc⟩
  simp only [Fs] at hF
  refine Ks_ (Ka_ (gs := [none, none]) fun K1 gK => ?_)
  simp (disch := omega) [hF]
  refine gK _ _ (Kq_ (gr _ _ ?_))
  simp [JW, Tryz.f39, hF]
  refine hR _ _ ?_
  exact ⟨⟨acc, rfl, hacc⟩, hk⟩
end Go.Vm
namespace Go.Vm
open Go Go.Proofs Go.Sy
set_option maxRecDepth 100000
attribute [local simp] OkP Jbg OkS Q0 OkG Ql QG OkD Qf J8 JT Jj Jo vop Js Jy ev evs toV Jn Fr.dsTo Fr.glTo Fr.toNone Jk Jl Jm J6 Qe Jc Jz Jw V.undef JU JO Qn Qo Qt Qp Qu Qv JN Qw Qx Qy J7 Qz Ji Jt JG Jq JI Jp JX J2 Jv JM JP JS JK
theorem Jnu {nq : S} {l : List Wp} {i : Nat} (hi : i < l.length) (h : i = 0 → hdB l = false) : Jbv nq (l.take (i + 1)) = Jbv nq (l.take i) ++ [l[i]] := by
 match l, i, hi with
 | p :: r, 0, _ =>
  have := h rfl
  show Jbv nq [p] = _
  rw [Jd1 (l := [p]) this]; rfl
 | p :: r, n + 1, hi =>
  have hn : n < r.length := by simpa using hi
  have e : r.take (n + 1) = r.take n ++ [r[n]] := by rw [List.take_add_one, List.getElem?_eq_getElem hn]; rfl
  show Jbv nq (p :: r.take (n + 1)) = Jbv nq (p :: r.take n) ++ [r[n]]
  rw [e]
  simp only [Jbv]
  cases (!p.v && !p.q) <;> rfl
theorem Jl7 {nq : S} {l : List Wp} (hi : 0 < l.length) (h : hdB l = true) : Jbv nq (l.take 1) = [⟨false, nq.app l[0].t, false⟩] := by
 match l, hi with
 | p :: r, _ => show Jbv nq [p] = _; rw [JcZ (r := []) h]; rfl
theorem Jou {l : List Wp} (hi : 0 < l.length) {A B : Bool} (hA : l[0].v = A) (hB : l[0].q = B) : hdB l = (!A && !B) := by
 match l, hi with
 | p :: r, _ => show (!p.v && !p.q) = _; rw [show p.v = A from hA, show p.q = B from hB]
variable [Memo] [NY] [NO]
set_option maxHeartbeats 4000000 in
set_option maxRecDepth 100000 in
omit [NO] in
theorem Jnv (gl : Gl) (st : St) (nm : S) (w : V) (l : List Wp) (hw : Wv st w l) (hl : l.length ≤ 1000) (hn : nm.n ≤ 100000) (ht : ∀ p ∈ l, p.t.n ≤ 100000) :
  Says Tryz.prog gl 40 [.str nm, w] st (fun v st' => (∃ y b, v = .agg [y, .int .i64 b] ∧ Mz 3 st.ctr 43 st' y ((Jbv (nm.app (S.ofList [61])) l).map Wp.cells)) ∧ Keep st st') := by
 refine Qb (NY.no _ rfl rfl rfl _ _) Tryz.func40 rfl (by kernel_rfl) fun R hR K gr gn => ?_
 generalize hfr : JC gl [.str nm, w] = fr
 have hF : Fs gl [(0, .str nm), (1, w)] fr := by subst hfr; simp [Fs]
 simp only [Fs] at hF
 clear hfr
 obtain ⟨x, a, rfl, hx⟩ := hw
 have hxo := hx.one
 have ho : ([x, .int .i64 a] : List V).all Ju = true := by simp only [List.all_cons, hxo]; rfl
 have kq := JL st [x, .int .i64 a] 41
 have bq := Jaf st [x, .int .i64 a] 41
 have hb := JZ st [x, .int .i64 a] 41
 have cq := Jae st [x, .int .i64 a] 41
 generalize QM st [x, .int .i64 a] 41 = q0 at kq bq hb cq
 have k1 := JL q0 [.nils, .int .i64 0] 41
 have e1 := JZ q0 [.nils, .int .i64 0] 41
 have b1 := Jaf q0 [.nils, .int .i64 0] 41
 have c1 := Jae q0 [.nils, .int .i64 0] 41
 generalize QM q0 [.nils, .int .i64 0] 41 = q1 at k1 e1 b1 c1
 have one41 : ([V.nils, .int .i64 0] : List V).all Ju = true := rfl
 have ad : ∀ kk, Je Tryz.prog kk .add 9 (.str nm) (.str (S.ofList [61])) = some (.str (nm.app (S.ofList [61]))) := fun kk => QQ (by rw [Jb]; simp; omega)
 obtain ⟨nq, hnq⟩ : ∃ x, nm.app (S.ofList [61]) = x := ⟨_, rfl⟩
 have hnqn : nq.n ≤ 100001 := by rw [← hnq, Jby, Jb]; simp; omega
 rw [hnq] at ad hR
 obtain ⟨q2, hq2⟩ : ∃ s, s = q1.new (.cells [.bool false, .str nq, .bool false] 43 true (some 0)) := ⟨_, rfl⟩
 have k2 : Keep q1 q2 := by rw [hq2]; exact (Keep.refl q1).new' _
 have c2 : q2.ctr = q1.ctr + 1 := by rw [hq2]; rfl
 have g2 : q2.box.get q1.ctr = some (.cells [.bool false, .str nq, .bool false] 43 true (some 0)) := by rw [hq2, Q9, if_pos rfl]
 have f2 : ({ ctr := q1.ctr + 1, box := q1.box.put q1.ctr (.cells [.bool false, .str nq, .bool false] 43 true (some 0)) } : St) = q2 := by rw [hq2]; rfl
 clear hq2
 have b39 := JoE ⟨false, nq, false⟩
 have o39 := Jmr ⟨false, nq, false⟩
 have m2 : Mz 3 q1.ctr 43 q2 (.ms q1.ctr 0 1 3 (some 1)) ((Jbv nq []).map Wp.cells) := .ms (z := 3) q1.ctr (some 1) _ true [[.bool false, .str nq, .bool false]] (by simp [Rz]) (Nat.le_refl _) (by omega) g2 rfl (by simp) (fun c hc => by cases hc; simp)
 have hvl := hx.len
 have lw : ∀ {s : St}, Keep q1 s → JB Tryz.prog s 39 (.ptr st.ctr 0) = some x := fun k => Jf (off := 0) a39 z39 (by rw [(k1.trans k).box st.ctr (by omega)]; exact bq) rfl
 refine Ks_ (Ka_ (gs := [none, none]) fun K1 gK => ?_)
 simp (disch := omega) [hF, hb, ho, Jbw, e1, one41]
 refine gK _ _ (Ks_ (Ka_ (gs := [none, none, none, none, none]) fun K1 gK => ?_))
 simp (disch := omega) [hF, ad, Jar, b39, o39, f2, Jx]
 refine gK _ _ (Ks_ (Ks_ (Ka_ (gs := [none]) fun K1 gK => ?_)))
 simp (disch := omega) []
 refine gK _ _ ?_
 refine Kl_ (l.length) (fun i fr st' => ∃ (out : V), Fs gl [(3, .ptr st.ctr 0), (4, .ptr q0.ctr 0), (5, out), (6, .int .i64 (i : Int))] fr ∧ i ≤ l.length ∧ Keep q1 st' ∧ Mz 3 q1.ctr 43 st' out ((Jbv nq (l.take i)).map Wp.cells) ∧ (i = 0 → out = .ms q1.ctr 0 1 3 (some 1) ∧ st'.box.get q1.ctr = some (.cells [.bool false, .str nq, .bool false] 43 true (some 0)) ∧ q1.ctr < st'.ctr)) (0) (fun fr st' => ∃ (out : V), Fs gl [(3, .ptr st.ctr 0), (4, .ptr q0.ctr 0), (5, out)] fr ∧ Keep q1 st' ∧ Mz 3 q1.ctr 43 st' out ((Jbv nq l).map Wp.cells)) ?_ ?_ ?_ ?_
 ·exact ⟨.ms q1.ctr 0 1 3 (some 1), by simp [Fs, hF], Nat.zero_le _, k2, m2, fun _ => ⟨rfl, g2, by omega⟩⟩
 ·rintro i fr st' ⟨out, _, hi, hk, hm, h00⟩
  omega
 ·as_aux_lemma =>
  clear hF
  rintro i fr st' ⟨out, hF, hi, hk, hm, h00⟩ K1 gk1 gx1 go1
  simp only [Fs] at hF
  have lwi := lw hk
  refine Ks_ (Ks_ (Ka_ (gs := [none, none, none, none, none]) fun K1 gK => ?_))
  simp (disch := omega) [hF, wf0, lwi, hvl]
  refine gK _ _ ?_
  by_cases hlt : i < l.length
  ·
   refine Kt_ (by simp (disch := omega) [hlt]) ?_
   obtain ⟨ad, had, hadp⟩ := (hx.keep (kq.trans (k1.trans hk))).get hlt
   obtain ⟨p, hp⟩ : ∃ p, l[i] = p := ⟨_, rfl⟩
   have hpm : p ∈ l := by rw [← hp]; exact List.getElem_mem hlt
   rw [show l.getD i default = p by rw [List.getD_eq_getElem?_getD, List.getElem?_eq_getElem hlt]; exact hp] at hadp
   have hald : JB Tryz.prog st' 43 ad = some (.agg [.bool p.v, .str p.t, .bool p.q]) := hadp.loads.1
   have hns := QS st' p
   have nk := Q3 st' p
   have nb := Jai st' p
   have nc := JaE st' p
   have ncc : (Q2 st' p).ctr = st'.ctr + 1 := rfl
   have nbx : ∀ i, i < st'.ctr → (Q2 st' p).box.get i = st'.box.get i := nk.box
   generalize Q2 st' p = n1 at hns nk nb nc ncc nbx
   obtain ⟨sid, hsid⟩ : ∃ n, st'.ctr = n := ⟨_, rfl⟩
   rw [hsid] at hns nb nc
   have k1n := hk.trans nk
   obtain ⟨pl1, pl2, pl3⟩ := QZ nb
   have hpn := ht p hpm
   have mn := hm.keep nk
   have hlen := JfR nq (l.take i)
   rw [List.length_take, Nat.min_eq_left hi] at hlen
   refine Kk_ (Ks_ ?_)
   refine Kb_ fun K2 gn2 gx2 go2 => ?_
   refine Ks_ (Ka_ (gs := [none, none, none, none, none, none, none]) fun K1 gK => ?_)
   simp (disch := omega) [hF, wf0, lwi, hlt, hsid, had, hald, JQ, hns, Ju]
   refine gK _ _ (Ks_ (Ks_ ?_))
   refine Km_ (fun fr st' => Fs gl [(3, .ptr st.ctr 0), (4, .ptr q0.ctr 0), (5, out), (6, .int .i64 (i : Int)), (7, .ptr sid 0), (35, .bool (decide (i = 0) && hdB l))] fr ∧ n1 = st') ?_ ?_
   ·as_aux_lemma =>
    intro K3 gm3 go3
    by_cases h0 : i = 0
    ·
     subst h0
     obtain ⟨A, hA⟩ : ∃ b, p.v = b := ⟨_, rfl⟩
     obtain ⟨B, hB⟩ : ∃ b, p.q = b := ⟨_, rfl⟩
     have e00 : ∀ kk, Je Tryz.prog kk .eql 3 (.int .i64 0) (.int .i64 0) = some (.bool true) := fun kk => by cases kk <;> kernel_rfl
     have hdh : hdB l = (!A && !B) := Jou hlt (by rw [hp]; exact hA) (by rw [hp]; exact hB)
     rw [hA] at pl1
     rw [hB] at pl3
     cases A with
     | true =>
      refine Ka_ (gs := [none, none, none, some (some 26, true), some (some 26, true), some (some 26, true), none, none, some (some 31, true), some (some 31, true), some (some 31, true), none]) fun K1 gK => ?_
      simp (disch := omega) [hF, pg0, pl1, e00]
      refine gK _ _ ?_
      exact gm3 _ _ ⟨by simp [Fs, hF, hdh],  rfl⟩
     | false =>
      cases B with
      | true =>
       refine Ka_ (gs := [none, none, none, some (some 26, true), some (some 26, true), some (some 26, true), none, none, some (some 31, true), some (some 31, true), some (some 31, true), none]) fun K1 gK => ?_
       simp (disch := omega) [hF, pg0, pg2, pl1, pl3, e00]
       refine gK _ _ ?_
       exact gm3 _ _ ⟨by simp [Fs, hF, hdh],  rfl⟩
      | false =>
       refine Ka_ (gs := [none, none, none, some (some 26, true), some (some 26, true), some (some 26, true), none, none, some (some 31, true), some (some 31, true), some (some 31, true), none]) fun K1 gK => ?_
       simp (disch := omega) [hF, pg0, pg2, pl1, pl3, e00]
       refine gK _ _ ?_
       exact gm3 _ _ ⟨by simp [Fs, hF, hdh],  rfl⟩
    ·
     refine Ka_ (gs := [none, none, none, some (some 26, true), some (some 26, true), some (some 26, true), none, none, some (some 31, true), some (some 31, true), some (some 31, true), none]) fun K1 gK => ?_
     simp (disch := omega) [hF, h0]
     refine gK _ _ ?_
     exact gm3 _ _ ⟨by simp [Fs, hF, h0],  rfl⟩
   ·as_aux_lemma =>
    clear hF
    rintro fr st' ⟨hF, rfl⟩
    simp only [Fs] at hF
    obtain ⟨D, hD⟩ : ∃ b, (decide (i = 0) && hdB l) = b := ⟨_, rfl⟩
    rw [hD] at hF
    cases D with
    | true =>
     refine Kt_ (by simp (disch := omega) [hF]) ?_
     have hi0 : i = 0 := by
      rw [Bool.and_eq_true] at hD
      exact of_decide_eq_true hD.1
     have hdt : hdB l = true := by
      rw [Bool.and_eq_true] at hD
      exact hD.2
     subst hi0
     obtain ⟨rfl, hb0, hc0⟩ := h00 rfl
     obtain ⟨qt, hqt, kt, _⟩ := Jb0 n1 11
     have ktn := nk.trans kt
     have pt2 := (QZ ((kt.box sid nc).trans nb)).2.1
     have nbt : qt.box.get q1.ctr = some (.cells [.bool false, .str nq, .bool false] 43 true (some 0)) := (ktn.box _ hc0).trans hb0
     have ln1 := Jf (P := Tryz.prog) (off := 1) a9 z9 ((nk.box _ hc0).trans hb0) rfl
     have ln := Jf (P := Tryz.prog) (off := 1) a9 z9 nbt rfl
     have ad2 : ∀ kk, Je Tryz.prog kk .add 9 (.str nq) (.str p.t) = some (.str (nq.app p.t)) := fun kk => QQ (by omega)
     have hst := QB (P := Tryz.prog) (st := qt) (t := 9) (off := 1) (v := .str (nq.app p.t)) z9 nbt (by simp) rfl
     have ktc := ktn.ctr
     have i0 : Jd Tryz.prog 39 (.ms q1.ctr 0 1 3 (some 1)) (.int .i64 0) = some (.ptr q1.ctr 0) := by kernel_rfl
     refine Ks_ (Kh_ (b := [0, 0, 2, 6, 14, 0, 32, 126, 255, 511, 1023]) (gs := [none, none, none, none, none, none, none, none, none, none, none]) fun K1 gK => ?_)
     simp (disch := omega) [hF, pg1, hqt, pt2, ln, ad2, hst, i0]
     refine gK _ _ (Kx_ (gx2 _ _ (Ka_ (gs := [none, none, none]) fun K1 gK => ?_)))
     simp (disch := omega) [hF]
     refine gK _ _ ?_
     refine gk1 (0 + 1) _ _ (by omega) ⟨.ms q1.ctr 0 1 3 (some 1), by simp [Fs, hF], hlt, ⟨Nat.le_trans (hk.trans ktn).ctr (Nat.le_refl _), fun i hi => by (show (qt.box.put _ _).get i = _; rw [Tr.get_put, if_neg (by omega)]; exact (hk.trans ktn).box i hi)⟩, by (rw [Jl7 hlt hdt, hp]; exact .ms (z := 3) q1.ctr (some 1) _ true [[.bool false, .str (nq.app p.t), .bool false]] (by simp [Rz]) (Nat.le_refl _) (by show q1.ctr < qt.ctr; omega) (by show (qt.box.put _ _).get _ = _; rw [Tr.get_put, if_pos rfl]) rfl (by simp) (fun c hc => by cases hc; simp)), fun h => absurd h (by omega)⟩
    | false =>
     refine Kf_ (by simp (disch := omega) [hF]) ?_
     have l43 : JB Tryz.prog n1 43 (.ptr sid 0) = some (.agg [.bool p.v, .str p.t, .bool p.q]) := by simp only [JB, nb, Q5, a33, z33]; rfl
     obtain ⟨s6, hs6⟩ : ∃ s, s = n1.new (.cells [.bool p.v, .str p.t, .bool p.q] 43 true (some 0)) := ⟨_, rfl⟩
     have k6 : Keep n1 s6 := by rw [hs6]; exact (Keep.refl n1).new' _
     have c6 : s6.ctr = n1.ctr + 1 := by rw [hs6]; rfl
     have g6 : s6.box.get n1.ctr = some (.cells [.bool p.v, .str p.t, .bool p.q] 43 true (some 0)) := by rw [hs6, Q9, if_pos rfl]
     have f6 : ({ ctr := n1.ctr + 1, box := n1.box.put n1.ctr (.cells [.bool p.v, .str p.t, .bool p.q] 43 true (some 0)) } : St) = s6 := by rw [hs6]; rfl
     clear hs6
     have hk6 := k1n.trans k6
     have hc6 := hk6.ctr
     obtain ⟨y, s7, e7, low7, m7, _⟩ := Jjf (m := [p]) (mn.keep k6) (pbx g6 (by omega)) (by omega) (by simp; omega)
     have b39 := JoE p
     have o39 := Jmr p
     refine Kk_ (Ka_ (gs := [none, none, none, none, none]) fun K1 gK => ?_)
     simp (disch := omega) [hF, l43, b39, o39, f6, e7, Jx]
     refine gK _ _ (gn2 _ _ (Ka_ (gs := [none, none, none]) fun K1 gK => ?_))
     simp (disch := omega) [hF]
     refine gK _ _ ?_
     have hno : i = 0 → hdB l = false := fun h => by
      subst h
      simpa using hD
     refine gk1 (i + 1) _ _ (by omega) ⟨y, by simp [Fs, hF], by omega, Low.keep low7 hk6 (by omega), by (rw [Jnu hlt hno, hp]; exact m7), fun h => absurd h (by omega)⟩
  ·
   refine Kf_ (by simp (disch := omega) [hlt]) ?_
   exact Kx_ (gx1 _ _ ⟨out, by simp [Fs, hF, hlt], hk, by (rw [← List.take_of_length_le (l := l) (i := i) (by omega)]; exact hm)⟩)
 ·as_aux_lemma =>
  clear hF
  rintro fr st' ⟨out, hF, hk, hm⟩
  simp only [Fs] at hF
  have bt8 : st'.box.get q0.ctr = some (.cells [.nils, .int .i64 0] 41 true (some 0)) := (hk.box _ (by omega)).trans b1
  have hbd := Jpm hm
  have hone8 : ([out, .int .i64 0] : List V).all Ju = true := by simp only [List.all_cons, hm.one]; rfl
  have hs9 := QK (P := Tryz.prog) (st := st') (l := [out, .int .i64 0]) z41 bt8 rfl rfl hone8
  have hres : JB Tryz.prog ({ ctr := st'.ctr, box := st'.box.put q0.ctr (.cells [out, .int .i64 0] 41 true (some 0)) } : St) 41 (.ptr q0.ctr 0) = some (.agg [out, .int .i64 0]) := JfQ (by show (st'.box.put _ _).get _ = _; rw [Tr.get_put, if_pos rfl])
  refine Ks_ (Ka_ (gs := [none, none, none]) fun K1 gK => ?_)
  simp (disch := omega) [hF, hbd, hs9, Jx]
  refine gK _ _ (Kq_ (gr _ _ ?_))
  simp [JW, Tryz.f40, hF, hres]
  refine hR _ _ ?_
  refine ⟨⟨out, 0, rfl, ?_⟩, ?_⟩
  ·have := hm.stab (st' := { ctr := st'.ctr, box := st'.box.put q0.ctr (.cells [out, .int .i64 0] 41 true (some 0)) }) (Nat.le_refl _) fun i hi => by
    have := (hm.vid_lt hi).1
    show (st'.box.put _ _).get i = _
    rw [Tr.get_put, if_neg (by omega)]
   exact this.low (by omega)
  ·refine ⟨(kq.trans (k1.trans hk)).ctr, fun i hi => ?_⟩
   show (st'.box.put _ _).get i = _
   rw [Tr.get_put, if_neg (by omega)]
   exact (kq.trans (k1.trans hk)).box i hi
end Go.Vm
namespace Go.Vm
open Go Go.Proofs Go.Sy
def Cw.kind : Cw → Nat
 | .mk k _ _ _ _ _ _ => k
def brB (k j i : Nat) : Bool :=
 cond (decide (k = 2)) (decide (j = 2) || (decide (j = 5) || (decide (j = 3) || decide (j = 4))))
  (cond (decide (k = 3) || decide (k = 4)) (decide (j = 5) || (decide (i = 1) && (decide (j = 3) || decide (j = 4)))) (decide (k = 5) && decide (j = 5)))
def brT (b : Bool) (l : List UInt8) : List UInt8 := cond b ([123, 32] ++ (l ++ [59, 32, 125])) l
def JaL (k : Nat) (nm : S) (wl : List (List Wp)) (l : List (List UInt8)) : List UInt8 :=
 if k = 1 then (if nm.n = 0 then J1 [32] (wl.map wTxt) else wTxt (Jbv (nm.app (S.ofList [61])) (wl.headD [])))
 else if k = 2 then [33, 32] ++ l.getD 0 []
 else if k = 3 then J1 [32, 38, 38, 32] l
 else if k = 4 then J1 [32, 124, 124, 32] l
 else if k = 5 then J1 [59, 32] l
 else if k = 6 then [105, 102, 32] ++ (l.getD 0 [] ++ ([59, 32, 116, 104, 101, 110, 32] ++ (l.getD 1 [] ++ (cond (decide (2 < l.length)) ([59, 32, 101, 108, 115, 101, 32] ++ l.getD 2 []) [] ++ [59, 32, 102, 105]))))
 else if k = 7 then [119, 104, 105, 108, 101, 32] ++ (l.getD 0 [] ++ ([59, 32, 100, 111, 32] ++ (l.getD 1 [] ++ [59, 32, 100, 111, 110, 101])))
 else if k = 8 then [117, 110, 116, 105, 108, 32] ++ (l.getD 0 [] ++ ([59, 32, 100, 111, 32] ++ (l.getD 1 [] ++ [59, 32, 100, 111, 110, 101])))
 else [102, 111, 114, 32] ++ (nm.toList ++ ([32, 105, 110] ++ (cond (J1 [32] (wl.map wTxt)).isEmpty [] (32 :: J1 [32] (wl.map wTxt)) ++ ([59, 32, 100, 111, 32] ++ (l.getD 0 [] ++ [59, 32, 100, 111, 110, 101])))))
mutual
def txC : Cw → List UInt8
 | .mk k _ nm _ ws _ kids => JaL k nm (ws.map Ww.l) (Jab k 0 kids)
def Jab (k : Nat) : Nat → List Cw → List (List UInt8)
 | _, [] => []
 | i, c :: r => brT (brB k c.kind i) (txC c) :: Jab k (i + 1) r
end
theorem JaI (k : Nat) : ∀ (l : List Cw) (i : Nat), (Jab k i l).length = l.length
 | [], _ => by simp [Jab]
 | c :: r, i => by simp [Jab, JaI k r (i + 1)]
theorem JgD (k : Nat) : ∀ (l m : List Cw) (i : Nat), Jab k i (l ++ m) = Jab k i l ++ Jab k (i + l.length) m
 | [], m, i => by simp [Jab]
 | c :: r, m, i => by
  simp only [List.cons_append, Jab, JgD k r m (i + 1), List.length_cons]
  rw [show i + 1 + r.length = i + (r.length + 1) by omega]
theorem JdD (k : Nat) {l : List Cw} {i : Nat} (h : i < l.length) : Jab k 0 (l.take (i + 1)) = Jab k 0 (l.take i) ++ [brT (brB k l[i].kind i) (txC l[i])] := by
 rw [List.take_add_one, List.getElem?_eq_getElem h, Option.toList_some, JgD, List.length_take, Nat.min_eq_left (by omega), Nat.zero_add]
 simp [Jab]
def wsz (l : List Wp) : Nat := 1 + (l.map fun p => 1 + p.t.n / 100).sum
mutual
def szC : Cw → Nat
 | .mk _ _ _ _ ws _ kids => 1 + (ws.map fun w => wsz w.l).sum + JbQ kids
def JbQ : List Cw → Nat
 | [] => 0
 | c :: r => szC c + JbQ r
end
def wFit (l : List Wp) : Prop := l.length ≤ 100 ∧ ∀ p ∈ l, p.t.n ≤ 2000
inductive Fit : Cw → Prop
 | mk (k : Nat) (a : Int) (nm : S) (wv : V) (ws : List Ww) (kv : V) (kids : List Cw) (hn : nm.n ≤ 300) (hwl : ws.length ≤ 300) (hkl : kids.length ≤ 300) (hws : ∀ w ∈ ws, wFit w.l) (hks : ∀ c ∈ kids, Fit c) : Fit (.mk k a nm wv ws kv kids)
def wln (l : List Wp) : Nat := 1 + (l.map fun p => 5 + 2 * p.t.n).sum
theorem Jov (p : Wp) : (ptB p).length ≤ 3 + 2 * p.t.n := by
 have h1 := Jev p.t.toList
 rw [S.len] at h1
 unfold ptB
 cases p.v <;> cases p.q <;> simp [S.len] <;> omega
theorem Jl8 : ∀ (l : List Wp) (q : Bool), (wdT q l).length ≤ wln l
 | [], q => by cases q <;> simp [wdT, wln]
 | p :: l, q => by
  have h := Jl8 l p.q
  have h2 := Jov p
  unfold wln at h ⊢
  rw [wdT]
  simp only [List.length_append, List.map_cons, List.sum_cons]
  cases (p.q == q) <;> simp only [cond_true, cond_false, List.length_nil, List.length_cons] <;> omega
theorem Jff (l : List Wp) : (wTxt l).length ≤ wln l := by
 unfold wTxt
 cases JbV (l.map Wp.key) with
 | true => exact Jl8 l false
 | false => exact Nat.zero_le _
theorem Ji4 : ∀ l : List Wp, wln l ≤ 300 * wsz l
 | [] => by simp [wln, wsz]
 | p :: l => by
  have := Ji4 l
  unfold wln wsz at this ⊢
  simp only [List.map_cons, List.sum_cons]
  omega
theorem Jj9 (nq : S) (l : List Wp) : wln (Jbv nq l) ≤ 2 * nq.n + 5 + wln l := by
 cases h : hdB l with
 | false =>
  rw [Jd1 h]
  unfold wln
  simp only [List.map_cons, List.sum_cons]; omega
 | true =>
  cases l with
  | nil => cases h
  | cons p r =>
   rw [JcZ h]
   unfold wln
   simp only [List.map_cons, List.sum_cons, Jby]; omega
def tot (l : List (List UInt8)) : Nat := (l.map List.length).sum
theorem Jcm (sep : List UInt8) : ∀ l : List (List UInt8), (J1 sep l).length ≤ tot l + sep.length * l.length
 | [] => by simp [J1]
 | a :: l => by
  have h2 : ∀ m : List (List UInt8), (m.flatMap fun s => sep ++ s).length ≤ tot m + sep.length * m.length := fun m => by
   induction m with
   | nil => simp
   | cons b m ih =>
    simp only [List.flatMap_cons, List.length_append, List.length_cons, Nat.mul_add, tot, List.map_cons, List.sum_cons] at ih ⊢; omega
  have := h2 l
  simp only [J1, List.length_append, List.length_cons, Nat.mul_add, tot, List.map_cons, List.sum_cons] at this ⊢; omega
theorem JpO : ∀ l : List (List UInt8), (l.getD 0 []).length + (l.getD 1 []).length + (l.getD 2 []).length ≤ tot l
 | [] => by simp
 | [a] => by simp [tot]
 | [a, b] => by simp [tot]
 | a :: b :: c :: r => by simp [tot]; omega
theorem Jpa (ws : List Ww) : tot ((ws.map Ww.l).map wTxt) + ws.length ≤ 301 * (ws.map fun w => wsz w.l).sum := by
 induction ws with
 | nil => simp [tot]
 | cons w ws ih =>
  have h1 := Jff w.l
  have h2 := Ji4 w.l
  have h3 : 1 ≤ wsz w.l := by unfold wsz; omega
  simp only [tot, List.map_cons, List.sum_cons, List.length_cons] at ih ⊢
  omega
theorem Jk0 (k : Nat) (nm : S) (ws : List Ww) (l : List (List UInt8)) (hn : nm.n ≤ 300) : (JaL k nm (ws.map Ww.l) l).length ≤ tot l + 4 * l.length + 301 * (ws.map fun w => wsz w.l).sum + 900 := by
 have h3 := JpO l
 have hw := Jpa ws
 have hj := Jcm [32] ((ws.map Ww.l).map wTxt)
 simp only [List.length_map, List.length_cons, List.length_nil] at hj
 have j3 := Jcm [32, 38, 38, 32] l
 have j4 := Jcm [32, 124, 124, 32] l
 have j5 := Jcm [59, 32] l
 simp only [List.length_cons, List.length_nil] at j3 j4 j5
 have nl := S.len nm
 unfold JaL
 split
 ·split
  ·omega
  ·have h1 := Jff (Jbv (nm.app (S.ofList [61])) ((ws.map Ww.l).headD []))
   have h2 := Jj9 (nm.app (S.ofList [61])) ((ws.map Ww.l).headD [])
   rw [Jby, Jb] at h2
   simp only [List.length_cons, List.length_nil] at h2
   have h4 : wln ((ws.map Ww.l).headD []) ≤ 301 * (ws.map fun w => wsz w.l).sum + 1 := by
    cases ws with
    | nil => simp [wln]
    | cons w ws =>
     have := Ji4 w.l
     simp only [List.map_cons, List.headD_cons, List.sum_cons]; omega
   omega
 all_goals (repeat' split)
 all_goals (try simp only [List.length_append, List.length_cons, List.length_nil])
 all_goals (try omega)
 ·cases decide (2 < l.length) <;> simp only [cond_true, cond_false, List.length_append, List.length_cons, List.length_nil] <;> omega
 ·cases (J1 [32] ((ws.map Ww.l).map wTxt)).isEmpty <;> simp only [cond_true, cond_false, List.length_cons, List.length_nil] <;> omega
theorem Jnw (b : Bool) (l : List UInt8) : (brT b l).length ≤ l.length + 5 := by
 cases b <;> simp [brT]
theorem Jde (k : Nat) : ∀ (l : List Cw) (i : Nat), (∀ c ∈ l, (txC c).length + 20 ≤ 1000 * szC c) → tot (Jab k i l) + 10 * l.length ≤ 1000 * JbQ l
 | [], _, _ => by simp [Jab, tot, JbQ]
 | c :: r, i, h => by
  have h1 := Jde k r (i + 1) fun c hc => h c (by simp [hc])
  have h2 := h c (by simp)
  have h3 := Jnw (brB k c.kind i) (txC c)
  simp only [Jab, tot, JbQ, List.map_cons, List.sum_cons, List.length_cons] at h1 ⊢
  omega
theorem JdY {c : Cw} (h : Fit c) : (txC c).length + 20 ≤ 1000 * szC c := by
 induction h with
 | mk k a nm wv ws kv kids hn hwl hkl hws hks ih =>
  have h1 := Jde k kids 0 ih
  have h2 := Jk0 k nm ws (Jab k 0 kids) hn
  rw [JaI] at h2
  simp only [txC, szC]
  omega
theorem Jbu {c : Cw} : ∀ {l : List Cw}, c ∈ l → szC c ≤ JbQ l
 | d :: r, h => by
  rcases List.mem_cons.1 h with rfl | h
  ·simp only [JbQ]; omega
  ·have := Jbu h
   simp only [JbQ]; omega
end Go.Vm
namespace Go.Vm
open Go Go.Proofs Go.Sy
set_option maxRecDepth 100000
attribute [local simp] OkG Ql QG OkD Qf J8 JT Jj Jo vop Js Jy ev evs toV Jn Fr.dsTo Fr.glTo Fr.toNone Jk Jl Jm J6 Qe Jc Jz Jw V.undef JU JO Qn Qo Qt Qp Qu Qv JN Qw Qx Qy J7 Qz Ji Jt JG Jq JI Jp JX J2 Jv JM JP JS JK
def endB (l : List UInt8) : Bool := l.getLast? == some 32
theorem Jka {s : S} (h : s.n = 0) : endB s.toList = false := by
 have : s.toList = [] := by
  have := S.len s
  rw [h] at this
  exact List.length_eq_zero_iff.1 this
 rw [this]; rfl
theorem Jnx {s : S} {m : Nat} (h : s.n = m + 1) : (s.cut m s.n).same (S.ofList [32]) = endB s.toList := by
 have hl : s.toList.length = m + 1 := by rw [S.len, h]
 rw [S.same_eq, S.toList_ofList, S.toList_cut s (by omega) (Nat.le_refl _), h, show m + 1 - m = 1 by omega]
 have e : (s.toList.drop m).take 1 = [s.toList[m]] := by
  rw [List.drop_eq_getElem_cons (by omega)]; rfl
 have e2 : s.toList.getLast? = some s.toList[m] := by
  rw [List.getLast?_eq_getElem?, show s.toList.length - 1 = m by omega, List.getElem?_eq_getElem]
 rw [e]
 unfold endB
 rw [e2]
 generalize s.toList[m] = b
 rw [Bool.eq_iff_iff, beq_iff_eq, beq_iff_eq]
 simp
theorem Jk1 (a : List UInt8) : endB (a ++ [32]) = true := by simp [endB]
def JfH (l : List UInt8) : List UInt8 := cond (endB l) l.dropLast l
theorem Jk2 (a s : List UInt8) (h : endB s = false) : JfH (a ++ (32 :: s)) = a ++ cond s.isEmpty [] (32 :: s) := by
 cases s with
 | nil =>
  unfold JfH
  rw [Jk1]
  simp
 | cons b r =>
  have e : endB (a ++ (32 :: b :: r)) = endB (b :: r) := by
   unfold endB
   rw [List.getLast?_append, List.getLast?_cons_cons]
   simp [List.getLast?_cons]
  unfold JfH
  rw [e, h]; rfl
theorem Jk3 : ∀ b : UInt8, specials.elem b = false → (b == 32) = false := fun b h => by
 cases hb : b == 32 with
 | false => rfl
 | true =>
  rw [beq_iff_eq] at hb
  subst hb
  exact absurd h (by decide)
def lastOk (l : List UInt8) : Prop := ∃ b, l.getLast? = some b ∧ (b == 32) = false
theorem lastOk.app {l : List UInt8} (a : List UInt8) (h : lastOk l) : lastOk (a ++ l) := by
 obtain ⟨b, h1, h2⟩ := h
 exact ⟨b, by rw [List.getLast?_append, h1]; rfl, h2⟩
theorem lastOk.endB {l : List UInt8} (h : lastOk l) : endB l = false := by
 obtain ⟨b, h1, h2⟩ := h
 unfold Go.Vm.endB
 rw [h1]
 cases hh : (some b == some (32 : UInt8)) with
 | false => rfl
 | true =>
  rw [beq_iff_eq] at hh
  cases hh
  cases h2
theorem Jl9 {p : Wp} {fst : Bool} (h : Q1 p.key fst = true) : lastOk (ptB p ++ cond p.q [34] []) := by
 unfold Q1 Wp.key at h
 unfold ptB
 cases hv : p.v with
 | true =>
  cases p.q with
  | true => exact lastOk.app _ ⟨34, rfl, rfl⟩
  | false =>
   have : lastOk ([36, 123] ++ (p.t.toList ++ [125])) := lastOk.app _ (lastOk.app _ ⟨125, rfl, rfl⟩)
   rw [cond_true, cond_false, List.append_nil]
   exact this
 | false =>
  cases hq : p.q with
  | true => exact lastOk.app _ ⟨34, rfl, rfl⟩
  | false =>
   rw [hv, hq] at h
   simp only [Bool.false_eq_true, if_false] at h
   unfold JcN at h
   simp only [Bool.and_eq_true, Bool.not_eq_true'] at h
   obtain ⟨⟨h1, h2⟩, _⟩ := h
   simp only [cond_false, List.append_nil]
   have hne : p.t.toList ≠ [] := by
    intro e; rw [e] at h1; cases h1
   refine ⟨p.t.toList.getLast hne, List.getLast?_eq_some_getLast hne, ?_⟩
   rw [List.all_eq_true] at h2
   have := h2 _ (List.getLast_mem hne)
   simp only [Bool.not_eq_true'] at this
   exact Jk3 _ this
theorem Jh5 : ∀ (l : List Wp) (pv : Option Pk) (q : Bool), l ≠ [] → JcL pv (l.map Wp.key) = true → lastOk (wdT q l)
 | [], _, _, h, _ => absurd rfl h
 | [p], pv, q, _, hc => by
  simp only [List.map_cons, List.map_nil, JcL, Bool.and_eq_true] at hc
  have := Jl9 hc.1.1
  simp only [wdT]
  exact this.app _
 | p :: p2 :: l, pv, q, _, hc => by
  simp only [List.map_cons, JcL, Bool.and_eq_true] at hc
  have := Jh5 (p2 :: l) (some p.key) p.q (by simp) (by simp only [List.map_cons, JcL, Bool.and_eq_true]; exact hc.2)
  rw [wdT]
  exact (this.app _).app _
theorem Jk4 {l : List Wp} (h : JbV (l.map Wp.key) = true) : lastOk (wTxt l) := by
 unfold wTxt
 rw [h]
 unfold JbV at h
 rw [Bool.and_eq_true] at h
 refine Jh5 l none false ?_ h.2
 intro e; rw [e] at h; simp at h
theorem JeI (sep a b : List UInt8) (r : List (List UInt8)) : J1 sep (a :: b :: r) = a ++ (sep ++ J1 sep (b :: r)) := by simp [J1]
theorem JfI (sep : List UInt8) : ∀ l : List (List UInt8), (∀ a ∈ l, lastOk a) → endB (J1 sep l) = false ∧ (l ≠ [] → lastOk (J1 sep l))
 | [], _ => ⟨rfl, fun h => absurd rfl h⟩
 | [a], h => by
  have h1 := h a (by simp)
  have e : J1 sep [a] = a := by simp [J1]
  rw [e]
  exact ⟨h1.endB, fun _ => h1⟩
 | a :: b :: r, h => by
  have ih := (JfI sep (b :: r) fun c hc => h c (by simp [hc])).2 (by simp)
  rw [JeI]
  exact ⟨((ih.app _).app _).endB, fun _ => (ih.app _).app _⟩
theorem Jk5 {ws : List Ww} (h : ws.all Ww.may = true) : endB (J1 [32] ((ws.map Ww.l).map wTxt)) = false := by
 refine (JfI [32] _ fun a ha => ?_).1
 rw [List.map_map] at ha
 obtain ⟨w, hw, rfl⟩ := List.mem_map.1 ha
 rw [List.all_eq_true] at h
 exact Jk4 (h w hw)
variable [Memo] [NY] [NO]
set_option maxHeartbeats 4000000 in
set_option maxRecDepth 100000 in
omit [NO] in
theorem Jk6 (gl : Gl) (st : St) (s : S) (hn : s.n ≤ 1000000000) :
  Says Tryz.prog gl 113 [.str s, .str (S.ofList [32])] st (fun v st' => v = .bool (endB s.toList) ∧ st' = st) := by
 refine Qb (NY.no _ rfl rfl rfl _ _) Tryz.func113 rfl (by kernel_rfl) fun R hR K gr gn => ?_
 generalize hfr : JC gl [.str s, .str (S.ofList [32])] = fr
 have hF : Fs gl [(0, .str s), (1, .str (S.ofList [32]))] fr := by subst hfr; simp [Fs]
 simp only [Fs] at hF
 clear hfr
 have l1 := vlen9 s
 have l2 : QU Tryz.prog 9 (.str (S.ofList [32])) = some (.int .i64 1) := by kernel_rfl
 obtain ⟨G, hG⟩ : ∃ b, decide (1 ≤ s.n) = b := ⟨_, rfl⟩
 have hge : ∀ kk, Je Tryz.prog kk .geq 3 (.int .i64 (s.n : Int)) (.int .i64 1) = some (.bool G) := fun kk => by rw [JaR, ← hG]; congr 2; rw [decide_eq_decide]; omega
 refine Ks_ (Ka_ (gs := [none]) fun K1 gK => ?_)
 simp (disch := omega) []
 refine gK _ _ (Ks_ (Ka_ (gs := [none, none, none, none, none, none, some (some 10, true), some (some 10, true), some (some 10, true), some (some 10, true), some (some 10, true), some (some 10, true), some (some 10, true), some (some 10, true), some (some 10, true), none, none]) fun K1 gK => ?_))
 refine OkG.cutK 6 (fun fr st' => Fs gl [(0, .str s), (1, .str (S.ofList [32])), (10, .bool G)] fr ∧ st = st') (by kernel_rfl) ?_ ?_
 ·as_aux_lemma =>
  intro Kc gKc
  simp only [List.take]
  simp (disch := omega) [hF, l1, l2, hge]
  exact gKc _ _ ⟨by simp [Fs, hF], rfl⟩
 ·as_aux_lemma =>
  clear hF
  rintro fr st' ⟨hF, rfl⟩
  simp only [Fs] at hF
  simp only [List.drop]
  cases G with
  | true =>
   have h1 : 1 ≤ s.n := of_decide_eq_true hG
   obtain ⟨m, hm⟩ : ∃ m, s.n = m + 1 := ⟨s.n - 1, by omega⟩
   have hsub : ∀ kk, Je Tryz.prog kk .sub 3 (.int .i64 (s.n : Int)) (.int .i64 1) = some (.int .i64 (m : Int)) := fun kk => by rw [JI, Jp (by omega) (by omega), hm]; congr 2; omega
   have hsl : QA Tryz.prog 9 (.str s) (some (.int .i64 (m : Int))) none = some (.str (s.cut m s.n)) := Jda Tryz.underlying9 (by omega)
   have heq : ∀ kk, Je Tryz.prog kk .eql 9 (.str (s.cut m s.n)) (.str (S.ofList [32])) = some (.bool (endB s.toList)) := fun kk => by rw [Ji, Jnx hm]
   simp (disch := omega) [hF, l1, l2, hsub, hsl, heq]
   refine gK _ _ (Kq_ (gr _ _ ?_))
   simp [JW, Tryz.f113, hF]
   refine hR _ _ ?_
   exact ⟨rfl, rfl⟩
  | false =>
   have h1 : ¬ 1 ≤ s.n := of_decide_eq_false hG
   simp (disch := omega) [hF]
   refine gK _ _ (Kq_ (gr _ _ ?_))
   simp [JW, Tryz.f113, hF]
   refine hR _ _ ?_
   exact ⟨by rw [Jka (by omega)], rfl⟩
omit [Memo] [NY] [NO] in
theorem Jny {s : S} (h : endB s.toList = true) : 1 ≤ s.n ∧ (s.cut 0 (s.n - 1)).toList = s.toList.dropLast := by
 have h1 : 1 ≤ s.n := by
  refine Classical.byContradiction fun hn => ?_
  rw [Jka (by omega)] at h; cases h
 refine ⟨h1, ?_⟩
 rw [S.toList_cut s (Nat.zero_le _) (by omega), List.drop_zero, Nat.sub_zero, List.dropLast_eq_take, S.len]
set_option maxHeartbeats 4000000 in
set_option maxRecDepth 100000 in
omit [NO] in
theorem Jma (gl : Gl) (st : St) (s : S) (hn : s.n ≤ 1000000000) :
  Says Tryz.prog gl 91 [.str s, .str (S.ofList [32])] st (fun v st' => (∃ z : S, v = .str z ∧ z.toList = JfH s.toList) ∧ st' = st) := by
 refine Qb (NY.no _ rfl rfl rfl _ _) Tryz.func91 rfl (by kernel_rfl) fun R hR K gr gn => ?_
 generalize hfr : JC gl [.str s, .str (S.ofList [32])] = fr
 have hF : Fs gl [(0, .str s), (1, .str (S.ofList [32]))] fr := by subst hfr; simp [Fs]
 simp only [Fs] at hF
 clear hfr
 obtain ⟨v, q, hc, rfl, rfl⟩ := Says.use (Jk6 gl st s hn)
 have l1 := vlen9 s
 have l2 : QU Tryz.prog 9 (.str (S.ofList [32])) = some (.int .i64 1) := by kernel_rfl
 obtain ⟨G, hG⟩ : ∃ b, endB s.toList = b := ⟨_, rfl⟩
 rw [hG] at hc
 refine Ks_ (Ka_ (gs := [none]) fun K1 gK => ?_)
 simp (disch := omega) []
 refine gK _ _ (Ks_ (Ks_ (Ka_ (gs := [none, none, none]) fun K1 gK => ?_)))
 simp (disch := omega) [hF, hc]
 refine gK _ _ ?_
 cases G with
 | true =>
  refine Kt_ (by simp (disch := omega) []) ?_
  obtain ⟨h1, h2⟩ := Jny hG
  have hsub : ∀ kk, Je Tryz.prog kk .sub 3 (.int .i64 (s.n : Int)) (.int .i64 1) = some (.int .i64 ((s.n - 1 : Nat) : Int)) := fun kk => by rw [JI, Jp (by omega) (by omega)]; congr 2; omega
  have hsl : QA Tryz.prog 9 (.str s) none (some (.int .i64 ((s.n - 1 : Nat) : Int))) = some (.str (s.cut 0 (s.n - 1))) := Jei Tryz.underlying9 (by omega)
  generalize s.cut 0 (s.n - 1) = z at hsl h2
  generalize s.n - 1 = m at hsub hsl
  refine Ks_ (Ka_ (gs := [none, none, none, none, none, none, none, none]) fun K1 gK => ?_)
  simp (disch := omega) [hF, l1, l2, hsub, hsl]
  refine gK _ _ (Kq_ (gr _ _ ?_))
  simp [JW, Tryz.f91, hF]
  refine hR _ _ ?_
  exact ⟨⟨z, rfl, by rw [h2]; unfold JfH; rw [hG]; rfl⟩, rfl⟩
 | false =>
  refine Kf_ (by simp (disch := omega) []) (Kk_ (Ks_ (Ka_ (gs := [none, none]) fun K1 gK => ?_)))
  simp (disch := omega) [hF]
  refine gK _ _ (Kq_ (gr _ _ ?_))
  simp [JW, Tryz.f91, hF]
  refine hR _ _ ?_
  exact ⟨⟨s, rfl, by unfold JfH; rw [hG]; rfl⟩, rfl⟩
set_option maxRecDepth 100000 in
omit [NO] in
theorem Jnz (gl : Gl) (st : St) (s : S) (hn : s.n ≤ 1000000000) :
  Says Tryz.prog gl 65 [.str s, .str (S.ofList [32])] st (fun v st' => (∃ z : S, v = .str z ∧ z.toList = JfH s.toList) ∧ st' = st) := by
 refine Qb (NY.no _ rfl rfl rfl _ _) Tryz.func65 rfl (by kernel_rfl) fun R hR K gr gn => ?_
 generalize hfr : JC gl [.str s, .str (S.ofList [32])] = fr
 have hF : Fs gl [(0, .str s), (1, .str (S.ofList [32]))] fr := by subst hfr; simp [Fs]
 simp only [Fs] at hF
 clear hfr
 obtain ⟨v, q, hc, ⟨z, rfl, hz⟩, rfl⟩ := Says.use (Jma gl st s hn)
 refine Ks_ (Ka_ (gs := [none]) fun K1 gK => ?_)
 simp (disch := omega) []
 refine gK _ _ (Ks_ (Ka_ (gs := [none, none, none, none]) fun K1 gK => ?_))
 simp (disch := omega) [hF, hc]
 refine gK _ _ (Kq_ (gr _ _ ?_))
 simp [JW, Tryz.f65, hF]
 refine hR _ _ ?_
 exact ⟨⟨z, rfl, hz⟩, rfl⟩
set_option maxRecDepth 100000 in
omit [NO] in
theorem Jmb (gl : Gl) (st : St) (j : Nat) :
  Says Tryz.prog gl 54 [.int .u8 (j : Int)] st (fun v st' => v = .bool (decide (j = 3) || decide (j = 4)) ∧ st' = st) := by
 refine Qb (NY.no _ rfl rfl rfl _ _) Tryz.func54 rfl (by kernel_rfl) fun R hR K gr gn => ?_
 generalize hfr : JC gl [.int .u8 (j : Int)] = fr
 have hF : Fs gl [(0, .int .u8 (j : Int))] fr := by subst hfr; simp [Fs]
 simp only [Fs] at hF
 clear hfr
 have e3 : ∀ kk, Je Tryz.prog kk .eql 5 (.int .u8 (j : Int)) (.int .u8 3) = some (.bool (decide (j = 3))) := fun kk => JN
 have e4 : ∀ kk, Je Tryz.prog kk .eql 5 (.int .u8 (j : Int)) (.int .u8 4) = some (.bool (decide (j = 4))) := fun kk => JN
 generalize decide (j = 3) = d3 at *
 generalize decide (j = 4) = d4 at *
 refine Ks_ (Ka_ (gs := [none]) fun K1 gK => ?_)
 simp (disch := omega) []
 refine gK _ _ ?_
 cases d3 with
 | true =>
  refine Ks_ (Ka_ (gs := [none, none, none, some (some 5, false), some (some 5, false), none, none]) fun K1 gK => ?_)
  simp (disch := omega) [hF, e3]
  refine gK _ _ (Kq_ (gr _ _ ?_))
  simp [JW, Tryz.f54, hF]
  refine hR _ _ ?_
  exact ⟨rfl, rfl⟩
 | false =>
  refine Ks_ (Ka_ (gs := [none, none, none, some (some 5, false), some (some 5, false), none, none]) fun K1 gK => ?_)
  simp (disch := omega) [hF, e3, e4]
  refine gK _ _ (Kq_ (gr _ _ ?_))
  simp [JW, Tryz.f54, hF]
  refine hR _ _ ?_
  exact ⟨rfl, rfl⟩
end Go.Vm
namespace Go.Vm
open Go Go.Proofs Go.Sy
set_option maxRecDepth 100000
attribute [local simp] OkG Ql QG OkD Qf J8 JT Jj Jo vop Js Jy ev evs toV Jn Fr.dsTo Fr.glTo Fr.toNone Jk Jl Jm J6 Qe Jc Jz Jw V.undef JU JO Qn Qo Qt Qp Qu Qv JN Qw Qx Qy J7 Qz Ji Jt JG Jq JI Jp JX J2 Jv JM JP JS JK
theorem Jmc (c : Cw) (r : List V) : JD Tryz.prog 25 (.cp (c.cells ++ r)) 0 = some (.cp (c.cells ++ r)) := by cases c; kernel_rfl
theorem Jkb (c : Cw) (r : List V) (st : St) : JB Tryz.prog st 5 (.cp (c.cells ++ r)) = some (.int .u8 (c.kind : Int)) := by
 cases c
 simp only [JB, Q5, a5, z5, Cw.cells]; rfl
variable [Memo] [NY] [NO]
set_option maxHeartbeats 4000000 in
set_option maxRecDepth 100000 in
omit [NO] in
theorem Jk7 (gl : Gl) (st : St) (k : Nat) (a : Int) (nm : S) (wv kv : V) (kids : List Cw) (i : Nat) (hkv : Row Cw.cells kv kids) (how : Ju wv = true) (hi : i < kids.length) :
  Says Tryz.prog gl 35 [.agg [.int .u8 (k : Int), .int .i64 a, .str nm, wv, kv], .int .i64 (i : Int)] st (fun v st' => v = .bool (brB k kids[i].kind i) ∧ Keep st st') := by
 refine Qb (NY.no _ rfl rfl rfl _ _) Tryz.func35 rfl (by kernel_rfl) fun R hR K gr gn => ?_
 generalize hfr : JC gl [.agg [.int .u8 (k : Int), .int .i64 a, .str nm, wv, kv], .int .i64 (i : Int)] = fr
 have hF : Fs gl [(0, .agg [.int .u8 (k : Int), .int .i64 a, .str nm, wv, kv]), (1, .int .i64 (i : Int))] fr := by subst hfr; simp [Fs]
 simp only [Fs] at hF
 clear hfr
 have ho := Jge (k := k) (a := a) (nm := nm) how hkv.one
 have kq := JL st [.int .u8 (k : Int), .int .i64 a, .str nm, wv, kv] 25
 have hb := JZ st [.int .u8 (k : Int), .int .i64 a, .str nm, wv, kv] 25
 have hC := CB.new (st := st) (k := k) (a := a) (nm := nm) (wv := wv) (kv := kv)
 generalize QM st [.int .u8 (k : Int), .int .i64 a, .str nm, wv, kv] 25 = q0 at kq hb hC
 have l4 := hC.ld.l4
 have l0 := hC.ld.l0
 obtain ⟨rr, hi1⟩ := hkv.get (fun c _ => c.len5) Tryz.underlying23 z25 hi
 have hi1 := hi1 .i64
 have f0 := Jmc kids[i] rr
 have lk := Jkb kids[i] rr
 generalize kids[i].cells ++ rr = ad at hi1 f0 lk
 generalize kids[i].kind = j at lk hR
 obtain ⟨v, q, hc, rfl, rfl⟩ := Says.use (Jmb gl q0 j)
 have e2 : ∀ kk, Je Tryz.prog kk .eql 5 (.int .u8 (j : Int)) (.int .u8 2) = some (.bool (decide (j = 2))) := fun kk => JN
 have e5 : ∀ kk, Je Tryz.prog kk .eql 5 (.int .u8 (j : Int)) (.int .u8 5) = some (.bool (decide (j = 5))) := fun kk => JN
 have k2 : ∀ kk, Je Tryz.prog kk .eql 5 (.int .u8 (k : Int)) (.int .u8 2) = some (.bool (decide (k = 2))) := fun kk => JN
 have k3 : ∀ kk, Je Tryz.prog kk .eql 5 (.int .u8 (k : Int)) (.int .u8 3) = some (.bool (decide (k = 3))) := fun kk => JN
 have k4 : ∀ kk, Je Tryz.prog kk .eql 5 (.int .u8 (k : Int)) (.int .u8 4) = some (.bool (decide (k = 4))) := fun kk => JN
 have k5 : ∀ kk, Je Tryz.prog kk .eql 5 (.int .u8 (k : Int)) (.int .u8 5) = some (.bool (decide (k = 5))) := fun kk => JN
 have i1 : ∀ kk, Je Tryz.prog kk .eql 3 (.int .i64 (i : Int)) (.int .i64 1) = some (.bool (decide (i = 1))) := fun kk => JN
 simp only [brB] at hR
 generalize (decide (j = 3) || decide (j = 4)) = cj at hc hR
 generalize decide (j = 2) = j2 at e2 hR
 generalize decide (j = 5) = j5 at e5 hR
 generalize decide (k = 2) = d2 at k2 hR
 generalize decide (k = 3) = d3 at k3 hR
 generalize decide (k = 4) = d4 at k4 hR
 generalize decide (k = 5) = d5 at k5 hR
 generalize decide (i = 1) = i1b at i1 hR
 refine Ks_ (Ka_ (gs := [none, none]) fun K1 gK => ?_)
 simp (disch := omega) [hF, hb, ho]
 refine gK _ _ (Ks_ (Ka_ (gs := [none]) fun K1 gK => ?_))
 simp (disch := omega) []
 refine gK _ _ (Ks_ (Ka_ (gs := [none, none, none, none, none, none, none]) fun K1 gK => ?_))
 simp (disch := omega) [hF, cg4, l4, hi1, f0, lk]
 refine gK _ _ (Ks_ (Ks_ (Ka_ (gs := [none, none]) fun K1 gK => ?_)))
 simp (disch := omega) [cg0, l0]
 refine gK _ _ ?_
 refine Kb_ fun K1 gn1 gx1 go1 => ?_
 have gr1 := fun fr st h => go1 AE.ret fr st trivial (gr fr st h)
 refine Ks_ (Ka_ (gs := [none, none]) fun K1 gK => ?_)
 simp (disch := omega) [k2]
 refine gK _ _ ?_
 cases d2 with
 | true =>
  refine Kt_ (by simp (disch := omega) []) ?_
  cases j2 with
  | true =>
   refine Ks_ (Ka_ (gs := [none, none, none, some (some 19, false), some (some 19, false), none, none, some (some 23, false), some (some 23, false), some (some 23, false), none, none]) fun K1 gK => ?_)
   simp (disch := omega) [e2]
   refine gK _ _ (Kq_ (gr1 _ _ ?_))
   simp [JW, Tryz.f35, hF]
   refine hR _ _ ?_
   exact ⟨rfl, kq⟩
  | false =>
   cases j5 with
   | true =>
    refine Ks_ (Ka_ (gs := [none, none, none, some (some 19, false), some (some 19, false), none, none, some (some 23, false), some (some 23, false), some (some 23, false), none, none]) fun K1 gK => ?_)
    simp (disch := omega) [e2, e5]
    refine gK _ _ (Kq_ (gr1 _ _ ?_))
    simp [JW, Tryz.f35, hF]
    refine hR _ _ ?_
    exact ⟨rfl, kq⟩
   | false =>
    refine Ks_ (Ka_ (gs := [none, none, none, some (some 19, false), some (some 19, false), none, none, some (some 23, false), some (some 23, false), some (some 23, false), none, none]) fun K1 gK => ?_)
    simp (disch := omega) [hF, e2, e5, hc]
    refine gK _ _ (Kq_ (gr1 _ _ ?_))
    simp [JW, Tryz.f35, hF]
    refine hR _ _ ?_
    exact ⟨rfl, kq⟩
 | false =>
  refine Kf_ (by simp (disch := omega) []) (Ks_ (Ks_ (Ka_ (gs := [none, none]) fun K1 gK => ?_)))
  simp (disch := omega) [k3]
  refine gK _ _ ?_
  refine Km_ (fun fr st' => Fs gl [(1, .int .i64 (i : Int)), (2, .ptr st.ctr 0), (5, .fn 54 [] []), (6, .int .u8 (j : Int)), (14, .int .u8 (k : Int)), (28, .bool (d3 || d4))] fr ∧ q = st') ?_ ?_
  ·as_aux_lemma =>
   intro K2 gm2 go2
   cases d3 with
   | true =>
    refine Kt_ (by simp (disch := omega) []) (Kk_ ?_)
    exact gm2 _ _ ⟨by simp [Fs, hF], rfl⟩
   | false =>
    refine Kf_ (by simp (disch := omega) []) (Ka_ (gs := [none, none]) fun K1 gK => ?_)
    simp (disch := omega) [k4]
    refine gK _ _ ?_
    exact gm2 _ _ ⟨by simp [Fs, hF],  rfl⟩
  ·as_aux_lemma =>
   clear hF
   rintro fr st' ⟨hF, rfl⟩
   simp only [Fs] at hF
   generalize (d3 || d4) = dc at hF hR
   cases dc with
   | true =>
    refine Kt_ (by simp (disch := omega) [hF]) ?_
    cases j5 with
    | true =>
     refine Ks_ (Ka_ (gs := [none, none, none, some (some 33, false), some (some 33, false), some (some 33, false), some (some 36, true), some (some 36, true), some (some 36, true), some (some 33, false), none, none]) fun K1 gK => ?_)
     simp (disch := omega) [hF, e5]
     refine gK _ _ (Kq_ (gr1 _ _ ?_))
     simp [JW, Tryz.f35, hF]
     refine hR _ _ ?_
     exact ⟨rfl, kq⟩
    | false =>
     cases i1b with
     | true =>
      refine Ks_ (Ka_ (gs := [none, none, none, some (some 33, false), some (some 33, false), some (some 33, false), some (some 36, true), some (some 36, true), some (some 36, true), some (some 33, false), none, none]) fun K1 gK => ?_)
      simp (disch := omega) [hF, e5, i1, hc]
      refine gK _ _ (Kq_ (gr1 _ _ ?_))
      simp [JW, Tryz.f35, hF]
      refine hR _ _ ?_
      exact ⟨rfl, kq⟩
     | false =>
      refine Ks_ (Ka_ (gs := [none, none, none, some (some 33, false), some (some 33, false), some (some 33, false), some (some 36, true), some (some 36, true), some (some 36, true), some (some 33, false), none, none]) fun K1 gK => ?_)
      simp (disch := omega) [hF, e5, i1]
      refine gK _ _ (Kq_ (gr1 _ _ ?_))
      simp [JW, Tryz.f35, hF]
      refine hR _ _ ?_
      exact ⟨rfl, kq⟩
   | false =>
    refine Kf_ (by simp (disch := omega) [hF]) ?_
    cases d5 with
    | true =>
     refine Kk_ (gn1 _ _ (Ks_ (Ka_ (gs := [none, none, none, none, some (some 45, true), some (some 45, true), none, none]) fun K1 gK => ?_)))
     simp (disch := omega) [hF, cg0, l0, k5, e5]
     refine gK _ _ (Kq_ (gr _ _ ?_))
     simp [JW, Tryz.f35, hF]
     refine hR _ _ ?_
     exact ⟨rfl, kq⟩
    | false =>
     refine Kk_ (gn1 _ _ (Ks_ (Ka_ (gs := [none, none, none, none, some (some 45, true), some (some 45, true), none, none]) fun K1 gK => ?_)))
     simp (disch := omega) [hF, cg0, l0, k5]
     refine gK _ _ (Kq_ (gr _ _ ?_))
     simp [JW, Tryz.f35, hF]
     refine hR _ _ ?_
     exact ⟨rfl, kq⟩
end Go.Vm
namespace Go.Vm
open Go Go.Proofs Go.Sy
set_option maxRecDepth 100000
attribute [local simp] OkG Ql QG OkD Qf J8 JT Jj Jo vop Js Jy ev evs toV Jn Fr.dsTo Fr.glTo Fr.toNone Jk Jl Jm J6 Qe Jc Jz Jw V.undef JU JO Qn Qo Qt Qp Qu Qv JN Qw Qx Qy J7 Qz Ji Jt JG Jq JI Jp JX J2 Jv JM JP JS JK JdV
structure KM (id : Nat) (st st' : St) : Prop where
 ctr : st.ctr ≤ st'.ctr
 box : ∀ i, i < st.ctr → i ≠ id → st'.box.get i = st.box.get i
theorem KM.trans {id : Nat} {a b c : St} (h : KM id a b) (h' : KM id b c) : KM id a c := ⟨Nat.le_trans h.ctr h'.ctr, fun i hi hn => (h'.box i (Nat.lt_of_lt_of_le hi h.ctr) hn).trans (h.box i hi hn)⟩
theorem KM.of {id : Nat} {a b : St} (h : Keep a b) : KM id a b := ⟨h.ctr, fun i hi _ => h.box i hi⟩
structure Mp (st : St) (id : Nat) (l : List (V × V × Nat)) (n : Nat) : Prop where
 b : st.box.get id = some (.entries l n)
 lt : id < st.ctr
theorem Mp.keep {st st' : St} {id : Nat} {l : List (V × V × Nat)} {n : Nat} (h : Mp st id l n) (k : Keep st st') : Mp st' id l n := ⟨by rw [k.box id h.lt]; exact h.b, Nat.lt_of_lt_of_le h.lt k.ctr⟩
theorem Mp.ins {st : St} {id : Nat} {l : List (V × V × Nat)} {n : Nat} (h : Mp st id l n) (k : Nat) (v : V) (hf : JeG (.int .u8) (.int .u8 (k : Int)) l 0 = some none) :
  ∃ st', Jbe Tryz.prog st 77 (.mapp id) (.int .u8 (k : Int)) v = some st' ∧ Mp st' id (l ++ [(.int .u8 (k : Int), v, n)]) (n + 1) ∧ KM id st st' ∧ st'.ctr = st.ctr := by
 refine ⟨{ st with box := st.box.put id (.entries (l ++ [(.int .u8 (k : Int), v, n)]) (n + 1)) }, ?_, ⟨by show (st.box.put _ _).get _ = _; rw [Tr.get_put, if_pos rfl], h.lt⟩, ⟨Nat.le_refl _, fun i _ hn => by show (st.box.put _ _).get _ = _; rw [Tr.get_put, if_neg hn]⟩, rfl⟩
 have hs : JcS (.int .u8) (.int .u8 (k : Int)) (.int .u8 (k : Int)) = some true := by simp [JcS]
 simp only [Jbe, Tryz.underlying77, Tryz.underlying5, h.b, hs, hf]
theorem Mp.new (st : St) : ∃ st', ({ ctr := st.ctr + 1, box := st.box.put st.ctr (.entries [] 0) } : St) = st' ∧ Mp st' st.ctr [] 0 ∧ Keep st st' ∧ st'.ctr = st.ctr + 1 :=
 ⟨_, rfl, ⟨by show (st.box.put _ _).get _ = _; rw [Tr.get_put, if_pos rfl], Nat.lt_succ_self _⟩, (Keep.refl st).new' _, rfl⟩
structure SB (st : St) (id : Nat) (s : S) : Prop where
 b : st.box.get id = some (.cells [.str s] 9 true (some 0))
 lt : id < st.ctr
theorem SB.keep {st st' : St} {id : Nat} {s : S} (h : SB st id s) (k : Keep st st') : SB st' id s := ⟨by rw [k.box id h.lt]; exact h.b, Nat.lt_of_lt_of_le h.lt k.ctr⟩
theorem SB.km {m : Nat} {st st' : St} {id : Nat} {s : S} (h : SB st id s) (k : KM m st st') (hn : id ≠ m) : SB st' id s := ⟨by rw [k.box id h.lt hn]; exact h.b, Nat.lt_of_lt_of_le h.lt k.ctr⟩
theorem SB.ld {st : St} {id : Nat} {s : S} (h : SB st id s) : JB Tryz.prog st 9 (.ptr id 0) = some (.str s) := Jf (off := 0) a9 z9 h.b rfl
theorem Jdf (s : S) : (V.str s).cells = [.str s] := rfl
def Jpb (b3 b4 b5 b7 b8 : Nat) : List (V × V × Nat) :=
 [(.int .u8 1, .fn 59 [] [], 0), (.int .u8 2, .fn 62 [] [], 1), (.int .u8 3, .fn 56 [] [.ptr b3 0], 2), (.int .u8 4, .fn 56 [] [.ptr b4 0], 3), (.int .u8 5, .fn 56 [] [.ptr b5 0], 4), (.int .u8 6, .fn 63 [] [], 5), (.int .u8 7, .fn 58 [] [.ptr b7 0], 6), (.int .u8 8, .fn 58 [] [.ptr b8 0], 7), (.int .u8 9, .fn 64 [] [], 8)]
def Ji5 (st : St) (v : V) : Prop := ∃ id b3 b4 b5 b7 b8, v = .mapp id ∧ Mp st id (Jpb b3 b4 b5 b7 b8) 9 ∧ SB st b3 (S.ofList [32, 38, 38, 32]) ∧ SB st b4 (S.ofList [32, 124, 124, 32]) ∧ SB st b5 (S.ofList [59, 32]) ∧ SB st b7 (S.ofList [119, 104, 105, 108, 101]) ∧ SB st b8 (S.ofList [117, 110, 116, 105, 108])
variable [Memo] [NY] [NO]
set_option maxRecDepth 100000 in
omit [NO] in
theorem Jes (gl : Gl) (st : St) (s : S) :
  Says Tryz.prog gl 55 [.str s] st (fun v st' => v = .fn 56 [] [.ptr st.ctr 0] ∧ SB st' st.ctr s ∧ Keep st st') := by
 refine Qb (NY.no _ rfl rfl rfl _ _) Tryz.func55 rfl (by kernel_rfl) fun R hR K gr gn => ?_
 generalize hfr : JC gl [.str s] = fr
 have hF : Fs gl [(0, .str s)] fr := by subst hfr; simp [Fs]
 simp only [Fs] at hF
 clear hfr
 have kq := JL st [.str s] 9
 have bq := Jaf st [.str s] 9
 have hb := JZ st [.str s] 9
 have cq := Jae st [.str s] 9
 have ho : ([.str s] : List V).all Ju = true := rfl
 generalize QM st [.str s] 9 = q0 at kq bq hb cq
 refine Ks_ (Ka_ (gs := [none, none]) fun K1 gK => ?_)
 simp (disch := omega) [hF, Jdf, hb, ho]
 refine gK _ _ (Ks_ (Ka_ (gs := [none, none]) fun K1 gK => ?_))
 simp (disch := omega) []
 refine gK _ _ (Kq_ (gr _ _ ?_))
 simp [JW, Tryz.f55, hF]
 refine hR _ _ ?_
 exact ⟨rfl, ⟨bq, by omega⟩, kq⟩
set_option maxRecDepth 100000 in
omit [NO] in
theorem JgE (gl : Gl) (st : St) (s : S) :
  Says Tryz.prog gl 57 [.str s] st (fun v st' => v = .fn 58 [] [.ptr st.ctr 0] ∧ SB st' st.ctr s ∧ Keep st st') := by
 refine Qb (NY.no _ rfl rfl rfl _ _) Tryz.func57 rfl (by kernel_rfl) fun R hR K gr gn => ?_
 generalize hfr : JC gl [.str s] = fr
 have hF : Fs gl [(0, .str s)] fr := by subst hfr; simp [Fs]
 simp only [Fs] at hF
 clear hfr
 have kq := JL st [.str s] 9
 have bq := Jaf st [.str s] 9
 have hb := JZ st [.str s] 9
 have cq := Jae st [.str s] 9
 have ho : ([.str s] : List V).all Ju = true := rfl
 generalize QM st [.str s] 9 = q0 at kq bq hb cq
 refine Ks_ (Ka_ (gs := [none, none]) fun K1 gK => ?_)
 simp (disch := omega) [hF, Jdf, hb, ho]
 refine gK _ _ (Ks_ (Ka_ (gs := [none, none]) fun K1 gK => ?_))
 simp (disch := omega) []
 refine gK _ _ (Kq_ (gr _ _ ?_))
 simp [JW, Tryz.f57, hF]
 refine hR _ _ ?_
 exact ⟨rfl, ⟨bq, by omega⟩, kq⟩
set_option maxHeartbeats 4000000 in
set_option maxRecDepth 100000 in
omit [NO] in
theorem Jmd (gl : Gl) (st : St) :
  Says Tryz.prog gl 36 [] st (fun v st' => Ji5 st' v ∧ Keep st st') := by
 refine Qb (NY.no _ rfl rfl rfl _ _) Tryz.func36 rfl (by kernel_rfl) fun R hR K gr gn => ?_
 generalize hfr : JC gl [] = fr
 have hF : Fs gl [] fr := by subst hfr; simp [Fs]
 simp only [Fs] at hF
 clear hfr
 obtain ⟨s0, e0, m0, k0, c0⟩ := Mp.new st
 obtain ⟨s1, e1, m1, k1, c1⟩ := m0.ins 1 (.fn 59 [] []) rfl
 obtain ⟨s2, e2, m2, k2, c2⟩ := m1.ins 2 (.fn 62 [] []) rfl
 obtain ⟨v3, s3, e3, rfl, b3, k3⟩ := Says.use (Jes gl s2 (S.ofList [32, 38, 38, 32]))
 obtain ⟨s4, e4, m4, k4, c4⟩ := (m2.keep k3).ins 3 (.fn 56 [] [.ptr s2.ctr 0]) rfl
 obtain ⟨v5, s5, e5, rfl, b5, k5⟩ := Says.use (Jes gl s4 (S.ofList [32, 124, 124, 32]))
 obtain ⟨s6, e6, m6, k6, c6⟩ := (m4.keep k5).ins 4 (.fn 56 [] [.ptr s4.ctr 0]) rfl
 obtain ⟨v7, s7, e7, rfl, b7, k7⟩ := Says.use (Jes gl s6 (S.ofList [59, 32]))
 obtain ⟨s8, e8, m8, k8, c8⟩ := (m6.keep k7).ins 5 (.fn 56 [] [.ptr s6.ctr 0]) rfl
 obtain ⟨s9, e9, m9, k9, c9⟩ := m8.ins 6 (.fn 63 [] []) rfl
 obtain ⟨v10, s10, e10, rfl, b10, k10⟩ := Says.use (JgE gl s9 (S.ofList [119, 104, 105, 108, 101]))
 obtain ⟨s11, e11, m11, k11, c11⟩ := (m9.keep k10).ins 7 (.fn 58 [] [.ptr s9.ctr 0]) rfl
 obtain ⟨v12, s12, e12, rfl, b12, k12⟩ := Says.use (JgE gl s11 (S.ofList [117, 110, 116, 105, 108]))
 obtain ⟨s13, e13, m13, k13, c13⟩ := (m11.keep k12).ins 8 (.fn 58 [] [.ptr s11.ctr 0]) rfl
 obtain ⟨s14, e14, m14, k14, c14⟩ := m13.ins 9 (.fn 64 [] []) rfl
 have q3 := k3.ctr
 have q5 := k5.ctr
 have q7 := k7.ctr
 have q10 := k10.ctr
 have q12 := k12.ctr
 have g14 : KM st.ctr s13 s14 := k14
 have g12 : KM st.ctr s12 s14 := k13.trans k14
 have g11 : KM st.ctr s11 s14 := (KM.of k12).trans g12
 have g10 : KM st.ctr s10 s14 := k11.trans g11
 have g9 : KM st.ctr s9 s14 := (KM.of k10).trans g10
 have g7 : KM st.ctr s7 s14 := k8.trans (k9.trans g9)
 have g6 : KM st.ctr s6 s14 := (KM.of k7).trans g7
 have g5 : KM st.ctr s5 s14 := k6.trans g6
 have g4 : KM st.ctr s4 s14 := (KM.of k5).trans g5
 have g3 : KM st.ctr s3 s14 := k4.trans g4
 have g0 : KM st.ctr s0 s14 := k1.trans (k2.trans ((KM.of k3).trans g3))
 have hr : Ji5 s14 (.mapp st.ctr) ∧ Keep st s14 := ⟨⟨st.ctr, s2.ctr, s4.ctr, s6.ctr, s9.ctr, s11.ctr, rfl, m14, b3.km g3 (by omega), b5.km g5 (by omega), b7.km g7 (by omega), b10.km g10 (by omega), b12.km g12 (by omega)⟩, ⟨Nat.le_trans k0.ctr g0.ctr, fun i hi => (g0.box i (by omega) (by omega)).trans (k0.box i hi)⟩⟩
 clear m0 m1 m2 m4 m6 m8 m9 m11 m13 m14 b3 b5 b7 b10 b12 k0 k1 k2 k3 k4 k5 k6 k7 k8 k9 k10 k11 k12 k13 k14 g14 g12 g11 g10 g9 g7 g6 g5 g4 g3 g0 q3 q5 q7 q10 q12
 simp only [Int.cast_ofNat_Int] at e1 e2 e4 e6 e8 e9 e11 e13 e14
 refine Ks_ (Ka_ (gs := [none]) fun K1 gK => ?_)
 simp (disch := omega) []
 refine gK _ _ (Ks_ (Ka_ (gs := [none]) fun K1 gK => ?_))
 simp (disch := omega) []
 refine gK _ _ (Ks_ (Ka_ (gs := [none]) fun K1 gK => ?_))
 simp (disch := omega) []
 refine gK _ _ (Ks_ (Ka_ (gs := [none, none, none, none, none, none, none, none, none, none, none, none, none, none, none, none, none, none, none, none, none, none]) fun K1 gK => ?_))
 simp (disch := omega) [hF, e0, e1, e2, e3, e4, e5, e6, e7, e8, e9, e10, e11, e12, e13, e14]
 refine gK _ _ (Kq_ (gr _ _ ?_))
 simp [JW, Tryz.f36, hF]
 refine hR _ _ ?_
 exact hr
end Go.Vm
