/- SpellShows: the law, by the program. -/
import Derived.Test.YtphinjijaglokaaGreatDoorSzO
import Derived.Test.YtphinjijaglokaaGreatDoorSzP
import Derived.Test.YtphinjijaglokaaGreatDoorSzQ
import Derived.Test.YtphinjijaglokaaGreatDoorSzT
namespace Go.Vm
open Go Go.Proofs Go.Pa
attribute [local simp] OkP QH OkS Qi OkG Qh Qp OkD JY Qr JI Jm Jq vop Js JB ev evs toV Jl Fr.dsTo Fr.glTo Fr.toNone Ji Jj Jk Qk QL Jd JD Jv V.undef JW JM J7 JX J3 J9 J8 Qa JH J4 J5 JZ JO Qb Jt Ju Jw Jz JE Jr JL JN JK Qq
theorem JjK {s : S} {st st' s2 s2' : St} {v v2 : V} {cs cs2 : List V} {t t2 : Nt} {ok ok2 : Bool} (h : ParseR s st v st' cs t ok) (k : ParseR s s2 v2 s2' cs2 t2 ok2) : ok = ok2 ∧ Jbs t t2 = true := by
 cases ok with
 | true =>
  obtain ⟨y1, y2, y3⟩ := h.y rfl
  cases ok2 with
  | true =>
   obtain ⟨z1, z2, z3⟩ := k.y rfl
   exact ⟨rfl, (Jep t y1 t2 z1 [] [] (by rw [← y3, ← z3])).1⟩
  | false => exact absurd ⟨y1, y2, y3⟩ ((k.n rfl).2 t)
 | false =>
  cases ok2 with
  | true => exact absurd (k.y rfl) ((h.n rfl).2 t2)
  | false =>
   obtain ⟨rfl, _⟩ := h.n rfl
   obtain ⟨rfl, _⟩ := k.n rfl
   exact ⟨rfl, by simp [noN, Jbs, Jdm, Jbi, JaX]⟩
theorem JeL {s : S} {st st' : St} {v : V} {cs : List V} {t : Nt} {ok : Bool} (h : ParseR s st v st' cs t ok) (hs : s.n ≤ 100000) : t.fit := by
 cases ok with
 | true =>
  obtain ⟨y1, _, y3⟩ := h.y rfl
  exact Jf8 hs t y1 y3
 | false =>
  obtain ⟨rfl, _⟩ := h.n rfl
  exact .mk _ _ _ _ (Nat.zero_le _) (Nat.zero_le _) (Nat.zero_le _) (fun s hs => by cases hs) fun t ht => by cases ht
theorem Jld {s : S} {st st' : St} {v : V} {cs : List V} {kind : Nat} {text : S} {names : List S} {kids : List Nt} {ok : Bool} (h : ParseR s st v st' cs (.mk kind text names kids) ok) : names.length = kids.length := by
 cases ok with
 | true =>
  rcases Jif (h.y rfl).2.1 with ⟨_, rfl, rfl⟩ | ⟨_, _, h2, _⟩
  ·rfl
  ·exact h2
 | false =>
  have := (h.n rfl).1
  unfold noN at this
  injection this with a b c d
  rw [c, d]; rfl
theorem JiA : ∀ {ts us : List S}, ts.map S.toList = us.map S.toList → Jbi S.same ts us = true
 | [], [], _ => rfl
 | [], _ :: _, h => by simp at h
 | _ :: _, [], h => by simp at h
 | a :: ts, b :: us, h => by
  simp only [List.map_cons, List.cons.injEq] at h
  simp only [Jbi, Bool.and_eq_true]
  exact ⟨Jdm h.1, JiA h.2⟩
theorem Mine.set3 {P : Program} {e : TypeId} (hz : Qj P e = some 1) {st : St} {x v : V} {l : List V} {lo i : Nat} (h : Mine lo e st x l) (hi : i < l.length) (hv : JgL v = true) :
  ∃ st', Q0 P st e (adr 1 x i) v = some st' ∧ st'.ctr = st.ctr ∧ Mine lo e st' x (l.set i v) ∧ ∀ j, ¬ vid x j → st'.box.get j = st.box.get j := by
 cases h with
 | nils => simp at hi
 | ms id n cap cs fl hlo hid hb hn hcap =>
  have hi' : i < cs.length := by simp at hi; omega
  refine ⟨{ st with box := st.box.put id (.cells (cs.set i v) e fl (some 0)) }, by simp only [adr, Nat.zero_add, Nat.mul_one]; exact QR hz hb hi' hv, rfl, ?_, fun j hj => by show (st.box.put id _).get j = _; rw [Tr.get_put, if_neg (fun e : j = id => hj e)]⟩
  have := Mine.ms (lo := lo) (e := e) (st := { st with box := st.box.put id (.cells (cs.set i v) e fl (some 0)) }) id n cap (cs.set i v) fl hlo hid (by show (st.box.put id _).get _ = _; rw [Tr.get_put, if_pos rfl]) (by simpa using hn) (fun c hc => by simpa using hcap c hc)
  rwa [List.take_set] at this
theorem Jmp {st : St} {x y : V} {l : List V} {css : List (List V)} (h : Mine 0 9 st x l) (k : Mz 4 0 25 st y css) {i : Nat} (hx : vid x i) (hy : vid y i) : False := by
 cases h with
 | nils => exact hx
 | ms id n cap cs fl hlo hid hb hn hcap =>
  cases k with
  | nils => exact hy
  | ms id' cap' cs' fl' css' hz' hlo' hid' hb' hs' hn' hcap' =>
   have e1 : i = id := hx
   have e2 : i = id' := hy
   subst e1
   subst e2
   rw [hb] at hb'
   injection hb' with h1
   injection h1 with _ h2
   cases h2
structure Spo (st : St) (lo cb kind : Nat) (text : S) (nv kv : V) (n : Nat) : Prop where
 b : NB st cb [.int .u8 (kind : Int), .str text, nv, kv]
 m : ∃ ms : List V, ms.length = n ∧ Mine 0 9 st nv ms
 z : ∃ css : List (List V), css.length = n ∧ Mz 4 0 25 st kv css
 nl : ∀ i, vid nv i → lo ≤ i ∧ i < cb
 kl : ∀ i, vid kv i → lo ≤ i ∧ i < cb
theorem Spo.name {st : St} {lo cb kind : Nat} {text : S} {nv kv : V} {n : Nat} (h : Spo st lo cb kind text nv kv n) {i : Nat} (hi : i < n) (z : S) :
  Jo Tryz.prog 22 nv (.int .i64 (i : Int)) = some (adr 1 nv i) ∧ ∃ st', Q0 Tryz.prog st 9 (adr 1 nv i) (.str z) = some st' ∧ Spo st' lo cb kind text nv kv n ∧ ∀ j, j < lo → st'.box.get j = st.box.get j ∧ st.ctr ≤ st'.ctr := by
 obtain ⟨ms, h1, h2⟩ := h.m
 obtain ⟨css, h3, h4⟩ := h.z
 have ix := h2.ix Tryz.underlying22 z9 (k := .i64) (a := (i : Int)) (by omega) (by omega)
 obtain ⟨s', w, c, m', o⟩ := h2.set3 z9 (i := i) (v := .str z) (by omega) rfl
 refine ⟨ix, s', w, ⟨⟨by rw [o _ (fun hv => by have := h.nl _ hv; omega)]; exact h.b.b, by rw [c]; exact h.b.lt⟩, ⟨_, by simpa using h1, m'⟩, ⟨css, h3, h4.stab (by omega) fun j hj => o j fun hv => Jmp h2 h4 hv hj⟩, h.nl, h.kl⟩, fun j hj => ⟨o j fun hv => by have := h.nl _ hv; omega, by omega⟩⟩
theorem Spo.kid {st : St} {lo cb kind : Nat} {text : S} {nv kv : V} {n : Nat} (h : Spo st lo cb kind text nv kv n) {i : Nat} (hi : i < n) :
  Jo Tryz.prog 23 kv (.int .i64 (i : Int)) = some (adr 4 kv i) ∧ ∃ st', Q0 Tryz.prog st 25 (adr 4 kv i) (.agg [.int .u8 0, .str ⟨0, 0⟩, .nils, .nils]) = some st' ∧ Spo st' lo cb kind text nv kv n ∧ ∀ j, j < lo → st'.box.get j = st.box.get j ∧ st.ctr ≤ st'.ctr := by
 obtain ⟨ms, h1, h2⟩ := h.m
 obtain ⟨css, h3, h4⟩ := h.z
 have ix := h4.sv.ix Tryz.underlying23 Jbh (k := .i64) (a := (i : Int)) (by omega) (by omega)
 obtain ⟨s', w, lw, m', o⟩ := h4.put Jbh (i := i) (v := .agg [.int .u8 0, .str ⟨0, 0⟩, .nils, .nils]) (by omega) rfl rfl
 have c := lw.ctr
 refine ⟨ix, s', w, ⟨⟨by rw [o _ (fun hv => by have := h.kl _ hv; omega)]; exact h.b.b, Nat.lt_of_lt_of_le h.b.lt c⟩, ⟨ms, h1, h2.stab c fun j hj => o j fun hv => Jmp h2 h4 hj hv⟩, ⟨_, by simpa using h3, m'⟩, h.nl, h.kl⟩, fun j hj => ⟨o j fun hv => by have := h.kl _ hv; omega, c⟩⟩
variable [Memo] [NY] [NZ] [NO] [NA]
set_option maxHeartbeats 8000000 in
set_option maxRecDepth 100000 in
theorem law3 (gl : Gl) (hg : gl.get 1 = some powV) (hg2 : gl.get 2 = some errS) (hg3 : gl.get 3 = some errR) {aL : List V} (hh : Hits gl aL) (st : St) (cs : List V) (t : Nt) (hr : NR e0 cs t) (hm : t.mass ≤ 1000000000) (s : S) (hs : s.n ≤ 1000000000) :
  Says Tryz.prog gl 3 [.agg cs, .str s] st (fun v _st' => v = .bool true) := by
 refine JS (NY.no _ rfl rfl rfl _ _) Tryz.func3 rfl (by kernel_rfl) fun R hR K gr gn => ?_
 generalize hfr : Jx gl [.agg cs, .str s] = fr
 have hF : Fs gl [(0, .agg cs), (1, .str s)] fr := by subst hfr; simp [Fs]
 simp only [Fs] at hF
 clear hfr
 have ho := hr.ones
 have kq := JJ st cs 25
 have hb := Qc st cs 25
 have hT := NB.new (st := st) (cs := cs)
 generalize Q4 st cs 25 = q at kq hb hT
 have hcl := hr.len
 have l0 := QZ hT.b hcl
 obtain ⟨v, s1, hc1, ⟨r, rfl, hr1, hr2, hr3⟩, hk1⟩ := Says.use (JnC gl t hm q cs (hr.keep (k0 q)))
 obtain ⟨G, hG⟩ : ∃ b, decide (500 < r) = b := ⟨_, rfl⟩
 obtain ⟨H, hH⟩ : ∃ b, decide (3000 < s.n) = b := ⟨_, rfl⟩
 have eG : ∀ kk, Jn Tryz.prog kk .gtr 3 (.int .i64 r) (.int .i64 500) = some (.bool G) := fun kk => by rw [← hG]; exact Jb3
 have eH : ∀ kk, Jn Tryz.prog kk .gtr 3 (.int .i64 (s.n : Int)) (.int .i64 3000) = some (.bool H) := fun kk => by rw [← hH]; exact JO
 refine Ks_ (Ka_ (gs := [none, none]) fun K1 gK => ?_)
 simp (disch := omega) [hF, Ja, ho, hb]
 refine gK _ _ (Ks_ (Ks_ ?_))
 refine Km_ (fun fr st' => Fs gl [(1, .str s), (2, .ptr st.ctr 0), (27, .bool (G || H))] fr ∧ s1 = st') ?_ ?_
 ·as_aux_lemma =>
  intro K1 gm1 go1
  cases G with
  | true =>
   refine Ka_ (gs := [none, none, none, none, some (some 23, false), some (some 23, false), some (some 23, false), none]) fun K1 gK => ?_
   simp (disch := omega) [hF, l0, hc1, eG]
   refine gK _ _ ?_
   exact gm1 _ _ ⟨by simp [Fs, hF], rfl⟩
  | false =>
   refine Ka_ (gs := [none, none, none, none, some (some 23, false), some (some 23, false), some (some 23, false), none]) fun K1 gK => ?_
   simp (disch := omega) [hF, l0, hc1, eG, eH, Jb]
   refine gK _ _ ?_
   exact gm1 _ _ ⟨by simp [Fs, hF], rfl⟩
 ·as_aux_lemma =>
  clear hF
  rintro fr st' ⟨hF, rfl⟩
  simp only [Fs] at hF
  obtain ⟨X, hX⟩ : ∃ b, (G || H) = b := ⟨_, rfl⟩
  rw [hX] at hF
  cases X with
  | true =>
   refine Kt_ (by simp (disch := omega) [hF]) ?_
   obtain ⟨v, sa, hca, rfl, hsa⟩ := Says.use (Jid gl s1)
   rw [show sa = s1 from hsa] at hca
   refine Ks_ (Ka_ (gs := [none, none]) fun K1 gK => ?_)
   simp (disch := omega) [hF, hca]
   refine gK _ _ (Kq_ (gr _ _ ?_))
   simp [JC, Tryz.f3, hF]
   refine hR _ _ ?_
   rfl
  | false =>
   refine Kf_ (by simp (disch := omega) [hF]) ?_
   have hz : r ≤ 500 ∧ s.n ≤ 3000 := by
    rw [← hG, ← hH] at hX
    simp only [Bool.or_eq_false_iff, decide_eq_false_iff_not] at hX
    omega
   obtain ⟨hsm, hnd⟩ := hr3 hz.1
   have hft := hsm.fit
   have hla := hT.keep hk1
   have l1 := QZ hla.b hcl
   have hlen := Jk7 t hsm
   obtain ⟨v, s2, hc2, ⟨z, rfl, hz2⟩, hk2⟩ := Says.use (Jnv gl hg hh s1 cs t (hr.keep (k0 s1)) hft (by omega))
   have l2 := QZ (hla.keep hk2).b hcl
   obtain ⟨v, s3, hc3, ⟨z', rfl, hz3⟩, hk3⟩ := Says.use (JlM gl s2 cs t (hr.keep (k0 s2)) hft (by omega))
   have hzz : z.same z' = true := Jdm (by rw [hz2, hz3])
   obtain ⟨n1, hn1⟩ : ∃ n : Int, ((cond (QA t) 0 4 : Nat) : Int) = n := ⟨_, rfl⟩
   rw [hn1] at hc2 hc3
   have eE : ∀ (n : Int) kk, Jn Tryz.prog kk .neq 28 (.int .i64 n) (.int .i64 n) = some (.bool false) := fun n kk => by rw [Jf3]; simp
   have en1 := eE n1
   refine Kk_ (Ks_ (Ka_ (gs := [none, none, none, none, none, none, none]) fun K1 gK => ?_))
   simp (disch := omega) [hF, l1, hc2]
   refine gK _ _ (Ks_ (Ka_ (gs := [none, none, none, none, none, none, none]) fun K1 gK => ?_))
   simp (disch := omega) [hF, l2, hc3]
   refine gK _ _ (Ks_ (Ks_ (Ka_ (gs := [none, none, none, none, some (some 42, false), some (some 42, false), some (some 42, false), none]) fun K1 gK => ?_)))
   simp (disch := omega) [hzz, en1]
   refine gK _ _ (Kf_ (by simp (disch := omega) []) (Kk_ (Ks_ (Ks_ (Ka_ (gs := [none]) fun K1 gK => ?_)))))
   simp (disch := omega) []
   refine gK _ _ ?_
   refine Kl_ (2) (fun i fr st' => Fs gl [(1, .str s), (2, .ptr st.ctr 0), (9, .int .i64 (i : Int))] fr ∧ i ≤ 2 ∧ NB st' st.ctr cs) (0) (fun fr st' => Fs gl [] fr ∧ NB st' st.ctr cs) ?_ ?_ ?_ ?_
   ·exact ⟨by simp [Fs, hF], Nat.zero_le _, hla.keep (hk2.trans hk3)⟩
   ·rintro i fr st' ⟨_, hi, hN⟩
    omega
   ·as_aux_lemma =>
    clear hF
    rintro i fr st' ⟨hF, hi, hN⟩ K2 gk2 gx2 go2
    simp only [Fs] at hF
    refine Ks_ (Ks_ (Ka_ (gs := [none, none]) fun K1 gK => ?_))
    simp (disch := omega) [hF]
    refine gK _ _ ?_
    by_cases hlt : i < 2
    ·
     refine Kt_ (by simp (disch := omega) [hlt]) ?_
     have l3 := QZ hN.b hcl
     obtain ⟨v, s4, hc4, ⟨x, ts, rfl, hts, hmx⟩, hk4⟩ := Says.use (Jnz gl hg hh st' cs t hr hft (by omega))
     have l4 := QZ (hN.keep hk4).b hcl
     obtain ⟨v, s5, hc5, ⟨y, us, rfl, hus, hmy⟩, hk5⟩ := Says.use (JlS gl s4 cs t (hr.keep (k0 s4)) hft (by omega))
     have htl : ts.length ≤ 600 := by
      have h1 := congrArg List.length hts
      rw [List.length_map] at h1
      have h2 := JcH t []
      have h3 : (cond (QA t) (Qv t []) []).length ≤ (Qv t []).length := by cases QA t <;> simp
      omega
     obtain ⟨v, s6, hc6, rfl, hk6⟩ := Says.use (Jmv gl s5 x y ts us (hmx.keep hk5).vw hmy.vw (by omega))
     rw [JiA (hts.trans hus.symm)] at hc6
     rw [hn1] at hc4 hc5
     refine Kk_ (Ks_ ?_)
     refine Kb_ fun K3 gn3 gx3 go3 => ?_
     refine Ks_ (Ka_ (gs := [none, none, none, none, none, none, none]) fun K1 gK => ?_)
     simp (disch := omega) [hF, hlt, l3, hc4]
     refine gK _ _ (Ks_ (Ka_ (gs := [none, none, none, none, none, none, none]) fun K1 gK => ?_))
     simp (disch := omega) [hF, l4, hc5]
     refine gK _ _ (Ks_ (Ks_ (Ka_ (gs := [none, none, none, none, none, some (some 65, false), some (some 65, false), some (some 65, false), none]) fun K1 gK => ?_)))
     simp (disch := omega) [hF, en1, hc6]
     refine gK _ _ (Kf_ (by simp (disch := omega) []) (Kk_ (Ks_ (Ks_ (Ka_ (gs := [none]) fun K1 gK => ?_)))))
     simp (disch := omega) []
     refine gK _ _ ?_
     obtain ⟨lo, hlo⟩ : ∃ n, st'.ctr = n := ⟨_, rfl⟩
     rw [hlo] at hmx
     have hll : st.ctr < lo := by rw [← hlo]; exact hN.lt
     refine Kl_ (ts.length) (fun k fr st' => ∃ (ms : List V), Fs gl [(1, .str s), (2, .ptr st.ctr 0), (9, .int .i64 (i : Int)), (10, x), (14, .int .i64 (k : Int))] fr ∧ k ≤ ts.length ∧ ms.length = ts.length ∧ Mine lo 9 st' x ms ∧ NB st' st.ctr cs) (0) (fun fr st' => Fs gl [(1, .str s), (2, .ptr st.ctr 0), (9, .int .i64 (i : Int))] fr ∧ NB st' st.ctr cs) ?_ ?_ ?_ ?_
     ·exact ⟨ts.map .str, by simp [Fs, hF], Nat.zero_le _, by simp, hmx.keep (hk5.trans hk6), hN.keep (hk4.trans (hk5.trans hk6))⟩
     ·rintro k fr st' ⟨ms, _, hk, hml, hmm, hNk⟩
      omega
     ·as_aux_lemma =>
      clear hF
      rintro k fr st' ⟨ms, hF, hk, hml, hmm, hNk⟩ K4 gk4 gx4 go4
      simp only [Fs] at hF
      have lx := hmm.len Tryz.underlying22
      rw [hml] at lx
      refine Ks_ (Ks_ (Ka_ (gs := [none, none, none, none]) fun K1 gK => ?_))
      simp (disch := omega) [hF, lx]
      refine gK _ _ ?_
      by_cases hlk : k < ts.length
      ·
       refine Kt_ (by simp (disch := omega) [hlk]) ?_
       have x1 := hmm.ix Tryz.underlying22 z9 (k := .i64) (a := (k : Int)) (by omega) (by omega)
       obtain ⟨s7, w7, low7, m7⟩ := hmm.set z9 (i := k) (v := .str (S.ofList [115, 112, 111, 105, 108, 116])) (by omega) rfl
       refine Kk_ (Ks_ ?_)
       refine Kb_ fun K5 gn5 gx5 go5 => ?_
       refine Ka_ (gs := [none, none, none, none]) fun K1 gK => ?_
       simp (disch := omega) [hF, hlk, x1, w7]
       refine gK _ _ (gn5 _ _ (Ka_ (gs := [none, none, none]) fun K1 gK => ?_))
       simp (disch := omega) [hF]
       refine gK _ _ ?_
       refine gk4 (k + 1) _ _ (by omega) ⟨ms.set k (.str (S.ofList [115, 112, 111, 105, 108, 116])), by simp [Fs, hF], by omega, by simpa using hml, m7, ⟨by rw [low7.box _ hll]; exact hNk.b, Nat.lt_of_lt_of_le hNk.lt low7.ctr⟩⟩
      ·
       refine Kf_ (by simp (disch := omega) [hlk]) ?_
       exact Kx_ (gx4 _ _ ⟨by simp [Fs, hF, hlk], hNk⟩)
     ·as_aux_lemma =>
      clear hF
      rintro fr st' ⟨hF, hNk⟩
      simp only [Fs] at hF
      obtain ⟨v, s8, hc8, ⟨cs1, t1, ok1, hp1⟩, hk8⟩ := Says.use (Jmj gl hg hg2 hg3 hh st' s (by omega) (Jf8 (by omega)))
      have hv8 := hp1.v
      rw [hv8] at hc8
      have hr8 := hp1.f.nr
      obtain ⟨w, w2, ew, hw, bw2, kw2, cw2⟩ := Jop s8 hr8.len hr8.ones
      obtain ⟨v, s9, hc9, ⟨cs2, t2, ok2, hp2⟩, hk9⟩ := Says.use (Jlf gl w2 s (by omega) (Jf8 (by omega)))
      have hv9 := hp2.v
      rw [hv9] at hc9
      have hr9 := hp2.f.nr
      obtain ⟨y', y2, ey, hy, by2, ky2, cy2⟩ := Jop s9 hr9.len hr9.ones
      obtain ⟨hok, hsn⟩ := JjK hp1 hp2
      subst hok
      have l5 := QZ (((hk9.trans ky2).box s8.ctr cw2).trans bw2) hr8.len
      have l6 := QZ by2 hr9.len
      obtain ⟨v, s10, hc10, rfl, hk10⟩ := Says.use (JlX gl t1 (JeL hp1 (by omega)) y2 cs1 cs2 t2 (hr8.keep (kw2.trans (hk9.trans ky2))) (hr9.keep ky2) (JeL hp2 (by omega)))
      rw [hsn] at hc10
      obtain ⟨n2, hn2⟩ : ∃ n : Int, ((cond ok1 0 4 : Nat) : Int) = n := ⟨_, rfl⟩
      rw [hn2] at hc8 hc9
      have g0 : ([V.agg cs1, V.int .i64 n2] : List V)[0]? = some (V.agg cs1) := rfl
      have g1 : ([V.int .i64 n2] : List V)[0]? = some (.int .i64 n2) := rfl
      have g2 : ([V.agg cs2, V.int .i64 n2] : List V)[0]? = some (V.agg cs2) := rfl
      have en2 := eE n2
      refine Ks_ ?_
      refine Kn_ (fun fr => Fs gl [(1, .str s), (2, .ptr st.ctr 0), (9, .int .i64 (i : Int))] fr) (by simp [Fs, hF]) ?_
      clear hF
      rintro fr hF
      simp only [Fs] at hF
      refine Ka_ (gs := [none, none, none, none, none, none, none, none]) fun K1 gK => ?_
      simp (disch := omega) [hF, Ja, hc8, g0, g1, JG, Jf, Jg, o1, ew, hw]
      refine gK _ _ (Ks_ (Ka_ (gs := [none, none, none, none, none, none, none, none]) fun K1 gK => ?_))
      simp (disch := omega) [hF, Ja, g1, g2, JG, Jf, Jg, o1, hc9, ey, hy]
      refine gK _ _ (Ks_ (Ks_ ?_))
      refine Kn_ (fun fr => Fs gl [(1, .str s), (2, .ptr st.ctr 0), (9, .int .i64 (i : Int)), (15, .ptr s8.ctr 0), (16, .int .i64 n2), (17, .ptr s9.ctr 0), (18, .int .i64 n2)] fr) (by simp [Fs, hF]) ?_
      clear hF
      rintro fr hF
      simp only [Fs] at hF
      refine Ka_ (gs := [none, none, none, none, none, some (some 93, false), some (some 93, false), some (some 93, false), none]) fun K1 gK => ?_
      simp (disch := omega) [hF, l5, l6, hc10, en2]
      refine gK _ _ (Kf_ (by simp (disch := omega) []) (Kk_ (Ks_ (Ka_ (gs := [none]) fun K1 gK => ?_))))
      simp (disch := omega) []
      refine gK _ _ ?_
      obtain ⟨A, hA, hAb⟩ := hp1.f
      obtain ⟨cb, hcb⟩ : ∃ n, s8.ctr = n := ⟨_, rfl⟩
      obtain ⟨lo2, hlo2⟩ : ∃ n, st'.ctr = n := ⟨_, rfl⟩
      have hl2 : st.ctr < lo2 := by rw [← hlo2]; exact hNk.lt
      have kall : Keep s8 s10 := kw2.trans (hk9.trans (ky2.trans hk10))
      have bcb : s10.box.get s8.ctr = some (.cells cs1 25 true (some 0)) := ((hk9.trans (ky2.trans hk10)).box s8.ctr cw2).trans bw2
      have ccb : s8.ctr < s10.ctr := Nat.lt_of_lt_of_le cw2 (hk9.trans (ky2.trans hk10)).ctr
      have hN10 := hNk.keep (hk8.trans kall)
      rw [hcb] at bcb ccb hF
      cases hA with
      | mk kind text nv kv names kids css hkd hn hsz ha hb' hl hrr => ?_
      have hnk := Jld hp1
      have hnlb : names.length ≤ 900000 := by
       have := JeL hp1 (by omega)
       cases this with
       | mk _ _ _ _ h1 h2 _ _ _ => exact h2
      have hsp : Spo s10 lo2 cb kind text nv kv names.length := ⟨⟨bcb, ccb⟩, ⟨_, by simp, hn.keep kall⟩, ⟨css, by omega, hsz.keep kall⟩, fun i hi => by have := hAb i (ha i hi); omega, fun i hi => by have := hAb i (hb' i hi); omega⟩
      refine Kl_ (names.length) (fun k fr st' => Fs gl [(1, .str s), (2, .ptr st.ctr 0), (9, .int .i64 (i : Int)), (15, .ptr cb 0), (19, .int .i64 (k : Int))] fr ∧ k ≤ names.length ∧ Spo st' lo2 cb kind text nv kv names.length ∧ NB st' st.ctr cs) (0) (fun fr st' => Fs gl [(1, .str s), (2, .ptr st.ctr 0), (9, .int .i64 (i : Int))] fr ∧ NB st' st.ctr cs) ?_ ?_ ?_ ?_
      ·exact ⟨by simp [Fs, hF], Nat.zero_le _, hsp, hN10⟩
      ·rintro k fr st' ⟨_, hk, hsp, hNn⟩
       omega
      ·as_aux_lemma =>
       clear hF
       rintro k fr st' ⟨hF, hk, hsp, hNn⟩ K6 gk6 gx6 go6
       simp only [Fs] at hF
       have m2 := hsp.b.ld.l2
       have ln : Jab Tryz.prog 22 nv = some (.int .i64 (names.length : Int)) := by
        obtain ⟨ms, h1, h2⟩ := hsp.m
        rw [← h1]; exact h2.len Tryz.underlying22
       refine Ks_ (Ks_ (Ka_ (gs := [none, none, none, none, none]) fun K1 gK => ?_))
       simp (disch := omega) [hF, gN2, m2, ln]
       refine gK _ _ ?_
       by_cases hlk : k < names.length
       ·
        refine Kt_ (by simp (disch := omega) [hlk]) ?_
        obtain ⟨x1, sA, wA, spA, oA⟩ := hsp.name hlk (S.ofList [115, 112, 111, 105, 108, 116])
        have m3 := spA.b.ld.l3
        obtain ⟨x2, sB, wB, spB, oB⟩ := spA.kid hlk
        refine Kk_ (Ks_ ?_)
        refine Kb_ fun K7 gn7 gx7 go7 => ?_
        refine Ks_ (Ka_ (gs := [none, none, none, none, none]) fun K1 gK => ?_)
        simp (disch := omega) [hF, gN2, m2, hlk, x1, wA]
        refine gK _ _ (Ka_ (gs := [none, none, none, none, none, none]) fun K1 gK => ?_)
        simp (disch := omega) [hF, gN3, m3, Je, x2, wB, Jc]
        refine gK _ _ (gn7 _ _ (Ka_ (gs := [none, none, none]) fun K1 gK => ?_))
        simp (disch := omega) [hF]
        refine gK _ _ ?_
        refine gk6 (k + 1) _ _ (by omega) ⟨by simp [Fs, hF], by omega, spB, ⟨by rw [(oB _ hl2).1, (oA _ hl2).1]; exact hNn.b, Nat.lt_of_lt_of_le hNn.lt (Nat.le_trans (oA _ hl2).2 (oB _ hl2).2)⟩⟩
       ·
        refine Kf_ (by simp (disch := omega) [hlk]) ?_
        exact Kx_ (gx6 _ _ ⟨by simp [Fs, hF, hlk], hNn⟩)
      ·as_aux_lemma =>
       clear hF
       rintro fr st' ⟨hF, hNn⟩
       simp only [Fs] at hF
       refine gn3 _ _ (Ka_ (gs := [none, none, none]) fun K1 gK => ?_)
       simp (disch := omega) [hF]
       refine gK _ _ ?_
       refine gk2 (i + 1) _ _ (by omega) ⟨by simp [Fs, hF], by omega, hNn⟩
    ·
     refine Kf_ (by simp (disch := omega) [hlt]) ?_
     exact Kx_ (gx2 _ _ ⟨by simp [Fs, hF, hlt], hN⟩)
   ·as_aux_lemma =>
    clear hF
    rintro fr st' ⟨hF, hN⟩
    simp only [Fs] at hF
    obtain ⟨v, sa, hca, rfl, hsa⟩ := Says.use (Jid gl st')
    refine Ks_ (Ka_ (gs := [none, none]) fun K1 gK => ?_)
    simp (disch := omega) [hF, hca]
    refine gK _ _ (Kq_ (gr _ _ ?_))
    simp [JC, Tryz.f3, hF]
    refine hR _ _ ?_
    rfl
end Go.Vm
