/- Lists of nodes: a list tells the node, no line is there twice (plain). -/
import Derived.Test.YtphinjijaglokaaGreatDoorSzL
import Derived.Test.YtphinjijaglokaaGreatDoorSpX
import Derived.Test.YtphinjijaglokaaGreatDoorSzI
import Derived.Test.YtphinjijaglokaaGreatDoorSzN
import Derived.Test.YtphinjijaglokaaGreatDoorSz2
import Derived.Test.YtphinjijaglokaaGreatDoorSzC
import Derived.Test.YtphinjijaglokaaGreatDoorSz7
namespace Go.Vm
open Go Go.Proofs Go.Pa
def JeC (p : List S) : List UInt8 := JaY (esc (JdY p))
def Jie (kind : Nat) (text : S) : List UInt8 := cond (decide (kind = 1)) ([102, 32] ++ esc text.toList) (cond (decide (kind = 3)) ([108, 32] ++ esc text.toList) [100])
mutual
def Qv : Nt → List S → List (List UInt8)
 | .mk kind text names kids, p => (JeC p ++ 32 :: Jie kind text) :: cond (decide (kind = 1) || decide (kind = 3)) [] (JaL kids names p)
def JaL : List Nt → List S → List S → List (List UInt8)
 | t :: ts, n :: ns, p => Qv t (p ++ [n]) ++ JaL ts ns p
 | _, _, _ => []
end
theorem Jcc (ns p : List S) : JaL [] ns p = [] := by cases ns <;> rfl
theorem Jd0 : ∀ (ts : List Nt) (ns p : List S) (i : Nat) (h : i < ts.length) (h' : i < ns.length), JaL (ts.take (i + 1)) ns p = JaL (ts.take i) ns p ++ Qv ts[i] (p ++ [ns[i]])
 | [], _, _, i, h, _ => by simp at h
 | _ :: _, [], _, i, _, h' => by simp at h'
 | t :: ts, n :: ns, p, 0, _, _ => by simp [JaL, Jcc]
 | t :: ts, n :: ns, p, i + 1, h, h' => by
  have := Jd0 ts ns p i (by simpa using h) (by simpa using h')
  simp only [List.take_succ_cons, JaL, this, List.getElem_cons_succ, List.append_assoc]
mutual
theorem JcH : ∀ (t : Nt) (p : List S), (Qv t p).length ≤ t.nodes
 | .mk kind text names kids, p => by
  have := JcX kids names p
  simp only [Qv, Nt.nodes, List.length_cons]
  cases decide (kind = 1) <;> cases decide (kind = 3) <;> simp <;> omega
theorem JcX : ∀ (ts : List Nt) (ns p : List S), (JaL ts ns p).length ≤ Jae ts
 | [], ns, p => by rw [Jcc]; simp
 | t :: ts, [], p => by simp [JaL]
 | t :: ts, n :: ns, p => by
  have h1 := JcH t (p ++ [n])
  have h2 := JcX ts ns p
  simp only [JaL, List.length_append, Jae]; omega
end
theorem Je4 {kind : Nat} {text : S} {names : List S} {kids : List Nt} {p : List S} (h : kind = 1 ∨ kind = 3) : Qv (.mk kind text names kids) p = [JeC p ++ 32 :: Jie kind text] := by
 rcases h with rfl | rfl <;> simp [Qv]
theorem Jjt {text : S} {names : List S} {kids : List Nt} {p : List S} : Qv (.mk 2 text names kids) p = (JeC p ++ 32 :: [100]) :: JaL kids names p := by
 simp [Qv, Jie]
theorem Jif {kind : Nat} {text : S} {names : List S} {kids : List Nt} (h : QA (.mk kind text names kids) = true) :
  ((kind = 1 ∨ kind = 3) ∧ names = [] ∧ kids = []) ∨ (kind = 2 ∧ text.n = 0 ∧ names.length = kids.length ∧ Jaz names = true ∧ ∀ t ∈ kids, QA t = true) := by
 by_cases h1 : kind = 1 ∨ kind = 3
 ·obtain ⟨a, b, _⟩ := JbY h h1
  exact .inl ⟨h1, a, b⟩
 ·exact .inr (Jbu h (fun e => h1 (.inl e)) (fun e => h1 (.inr e)))
def Jol (p : List S) (z : List UInt8) : Prop := ∃ (q : List S) (o : List UInt8) (r : List (List UInt8)), z = JeC q ++ 32 :: o ∧ (∀ s ∈ q, Jmg s) ∧ tl q = tl p ++ r
structure KidsW (ts : List Nt) (ns p : List S) : Prop where
 l : ts.length = ns.length
 ne : ns.Pairwise (fun a b => a.toList ≠ b.toList)
 pl : ∀ n ∈ ns, ∀ s ∈ p ++ [n], Jmg s
 u : ∀ t ∈ ts, ∀ n ∈ ns, ∀ z ∈ Qv t (p ++ [n]), Jol (p ++ [n]) z
end Go.Vm
namespace Go.Vm
open Go Go.Proofs Go.Pa
attribute [local simp] OkS Qi OkG Qh Qp OkD JY Qr JI Jm Jq vop Js JB ev evs toV Jl Fr.dsTo Fr.glTo Fr.toNone Ji Jj Jk Qk QL Jd JD Jv V.undef JW JM J7 JX J3 J9 J8 Qa JH J4 J5 JZ JO Qb Jt Ju Jw Jz JE Jr JL JN JK Qq
theorem JeD {p : List S} (hp : p.length ≤ 600) (hs : ∀ s ∈ p, s.n ≤ 64) : (JdY p).length ≤ 39001 := by
 cases p with
 | nil => simp [JdY]
 | cons a p =>
  rw [Jh7 (by simp)]
  have h := Jcm 47 (B := 64) (a :: p) hs
  have : (64 + 1) * (a :: p).length ≤ 65 * 600 := Nat.mul_le_mul_left _ hp
  omega
theorem JlQ {p : List S} (hp : p.length ≤ 600) (hs : ∀ s ∈ p, s.n ≤ 64) : (JeC p).length ≤ 156100 := by
 have h1 := JeD hp hs
 have h2 := JbC (JdY p)
 have h3 := JfY (esc (JdY p))
 unfold JeC; omega
theorem JfP {l : List S} (h : Jaz l = true) : ∀ s ∈ l, s.n ≤ 64 := by
 intro s hs
 obtain ⟨j, hj, rfl⟩ := List.getElem_of_mem hs
 have h1 := List.all_eq_true.1 h j (List.mem_range.2 hj)
 have h2 : Jdu l j = false := by simpa using h1
 unfold Jdu at h2
 rw [Bool.or_eq_false_iff] at h2
 rw [JnM hj] at h2
 have h3 : Jbt l[j] = true := by simpa using h2.1
 unfold Jbt at h3
 simp only [Bool.and_eq_true, decide_eq_true_eq] at h3
 exact h3.1.1.1.2
theorem Jks {p : List S} {n : S} (hp : ∀ s ∈ p, s.n ≤ 64) (hn : n.n ≤ 64) : ∀ s ∈ p ++ [n], s.n ≤ 64 := fun s hs => by
 rcases List.mem_append.1 hs with h | h
 ·exact hp s h
 ·rw [List.mem_singleton.1 h]; exact hn
variable [Memo] [NY]
set_option maxRecDepth 100000 in
theorem JnA (gl : Gl) (st : St) (s : S) (hs : s.n ≤ 100000) :
  Says Tryz.prog gl 51 [.str s] st (fun v st' => (∃ t : S, v = .str t ∧ t.toList = JaY (esc s.toList)) ∧ Sm st st') := by
 refine JS (NY.no _ rfl rfl rfl _ _) Tryz.func51 rfl (by kernel_rfl) fun R hR K gr gn => ?_
 generalize hfr : Jx gl [.str s] = fr
 have hF : Fs gl [(0, .str s)] fr := by subst hfr; simp [Fs]
 simp only [Fs] at hF
 clear hfr
 obtain ⟨v, s1, hc, ⟨u, rfl, hu⟩, hs1⟩ := Says.use (JmZ gl st s hs)
 rw [show s1 = st from hs1] at hc
 clear hs1
 have hun : u.n ≤ 200000 := by
  have h1 := congrArg List.length hu
  have h2 := JbC s.toList
  rw [S.len] at h1
  rw [S.len] at h2
  omega
 rw [← hu] at hR
 have ls := Jar Tryz.underlying9 (s := u)
 refine Ks_ (Ka_ (gs := [none]) fun K1 gK => ?_)
 simp (disch := omega) []
 refine gK _ _ (Ks_ (Ka_ (gs := [none]) fun K1 gK => ?_))
 simp (disch := omega) []
 refine gK _ _ (Ks_ (Ka_ (gs := [none, none, none]) fun K1 gK => ?_))
 simp (disch := omega) [hF, hc]
 refine gK _ _ (Ks_ (Ks_ (Ka_ (gs := [none]) fun K1 gK => ?_)))
 simp (disch := omega) []
 refine gK _ _ ?_
 refine Kl_ (u.n) (fun i fr st' => ∃ (acc : S), Fs gl [(0, .str u), (3, .str acc), (4, .int .i64 (i : Int))] fr ∧ i ≤ u.n ∧ acc.toList = JaY (u.toList.take i) ∧ st = st') (0) (fun fr st' => ∃ (acc : S), Fs gl [(3, .str acc)] fr ∧ acc.toList = JaY u.toList ∧ st = st') ?_ ?_ ?_ ?_
 ·exact ⟨⟨0, 0⟩, by simp [Fs, hF, S.ofList, enc],  Nat.zero_le _, rfl, rfl⟩
 ·rintro i fr st' ⟨acc, _, hi, hacc, rfl⟩
  omega
 ·as_aux_lemma =>
  clear hF
  rintro i fr st' ⟨acc, hF, hi, hacc, rfl⟩ K1 gk1 gx1 go1
  simp only [Fs] at hF
  refine Ks_ (Ks_ (Ka_ (gs := [none, none, none, none]) fun K1 gK => ?_))
  simp (disch := omega) [hF, ls]
  refine gK _ _ ?_
  by_cases hlt : i < u.n
  ·
   refine Kt_ (by simp (disch := omega) [hlt]) ?_
   have hix := Qw (P := Tryz.prog) (k := .i64) Tryz.underlying9 hlt
   have han : acc.n ≤ 2 * i := by
    have h1 := congrArg List.length hacc
    have h2 := JfY (u.toList.take i)
    rw [S.len] at h1
    rw [List.length_take, S.len] at h2
    omega
   have ad1 : ∀ kk, Jn Tryz.prog kk .add 9 (.str acc) (.str (S.ofList [92, 115])) = some (.str (acc.app (S.ofList [92, 115]))) := fun kk => Jai (by rw [Qu]; simp; omega)
   have ad2 : ∀ kk, Jn Tryz.prog kk .add 9 (.str acc) (.str (u.cut i (i + 1))) = some (.str (acc.app (u.cut i (i + 1)))) := fun kk => Jai (by rw [Jgd]; omega)
   have hsl : Jan Tryz.prog 9 (.str u) (some (.int .i64 (i : Int))) (some (.int .i64 ((i : Int) + 1))) = some (.str (u.cut i (i + 1))) := Jc4 (hi := i + 1) Tryz.underlying9 (by omega) (by omega)
   have hcl := S.at_lt u i
   have hone : JaY [UInt8.ofNat (u.at i)] = if u.at i = 32 then [92, 115] else [UInt8.ofNat (u.at i)] := by
    by_cases h : u.at i = 32
    ·rw [if_pos h, h]; rfl
    ·rw [if_neg h]
     have : ¬ UInt8.ofNat (u.at i) = 32 := fun e => h ((Jdj hcl (by decide : 32 < 256)).1 e)
     show (if UInt8.ofNat (u.at i) = 32 then [92, 115] else [UInt8.ofNat (u.at i)]) ++ [] = _
     rw [if_neg this]; rfl
   refine Kk_ (Ks_ ?_)
   refine Kb_ fun K2 gn2 gx2 go2 => ?_
   refine Ks_ (Ka_ (gs := [none, none, none, none]) fun K1 gK => ?_)
   simp (disch := omega) [hF, hlt, hix]
   refine gK _ _ ?_
   by_cases h32 : u.at i = 32
   ·
    refine Kt_ (by simp (disch := omega) [h32]) (Ka_ (gs := [none, none, none]) fun K1 gK => ?_)
    simp (disch := omega) [hF, ad1, h32]
    refine gK _ _ (gn2 _ _ (Ka_ (gs := [none, none, none]) fun K1 gK => ?_))
    simp (disch := omega) [hF]
    refine gK _ _ ?_
    refine gk1 (i + 1) _ _ (by omega) ⟨acc.app (S.ofList [92, 115]), by simp [Fs, hF], by omega, by rw [S.toList_app, hacc, JdF u hlt, Jc0, hone, if_pos h32, S.toList_ofList], rfl⟩
   ·
    refine Kf_ (by simp (disch := omega) [h32]) (Ka_ (gs := [none, none, none, none, none, none, none, none]) fun K1 gK => ?_)
    simp (disch := omega) [hF, ad2, hsl, h32]
    refine gK _ _ (gn2 _ _ (Ka_ (gs := [none, none, none]) fun K1 gK => ?_))
    simp (disch := omega) [hF]
    refine gK _ _ ?_
    refine gk1 (i + 1) _ _ (by omega) ⟨acc.app (u.cut i (i + 1)), by simp [Fs, hF], by omega, by rw [S.toList_app, hacc, JdF u hlt, Jc0, hone, if_neg h32, JlE hlt], rfl⟩
  ·
   refine Kf_ (by simp (disch := omega) [hlt]) ?_
   exact Kx_ (gx1 _ _ ⟨acc, by simp [Fs, hF, hlt], by rw [hacc, List.take_of_length_le (by rw [S.len]; omega)], rfl⟩)
 ·as_aux_lemma =>
  clear hF
  rintro fr st' ⟨acc, hF, hacc, rfl⟩
  simp only [Fs] at hF
  refine Ks_ (Ka_ (gs := [none, none]) fun K1 gK => ?_)
  simp (disch := omega) [hF]
  refine gK _ _ (Kq_ (gr _ _ ?_))
  simp [JC, Tryz.f51, hF]
  refine hR _ _ ?_
  exact ⟨⟨_, rfl, hacc⟩, rfl⟩
end Go.Vm
namespace Go.Vm
open Go Go.Proofs Go.Pa
attribute [local simp] OkP QH OkS Qi OkG Qh Qp OkD JY Qr JI Jm Jq vop Js JB ev evs toV Jl Fr.dsTo Fr.glTo Fr.toNone Ji Jj Jk Qk QL Jd JD Jv V.undef JW JM J7 JX J3 J9 J8 Qa JH J4 J5 JZ JO Qb Jt Ju Jw Jz JE Jr JL JN JK Qq
def RLn [Memo] (gl : Gl) (t : Nt) : Prop := ∀ (st : St) (cs : List V) (y : V) (p : List S), NR st cs t → Vw st y p → p.length + t.nodes ≤ 600 → (∀ s ∈ p, s.n ≤ 64) →
 Says Tryz.prog gl 30 [.agg cs, y] st fun v st' => (∃ ts : List S, ts.map S.toList = Qv t p ∧ Mine st.ctr 9 st' v (ts.map .str)) ∧ Keep st st'
def Jkt (st : St) (t : Nt) (v : V) (st' : St) : Prop := ∃ (x : V) (ts : List S), v = .tup [x, .int .i64 ((cond (QA t) 0 4 : Nat) : Int)] ∧ ts.map S.toList = cond (QA t) (Qv t []) [] ∧ Mine st.ctr 9 st' x (ts.map .str)
variable [Memo] [NY] [NZ] [NO]
set_option maxHeartbeats 8000000 in
set_option maxRecDepth 100000 in
omit [NZ] [NO] in
theorem JlR (gl : Gl) (st : St) (kind : Nat) (text : S) (nv kv : V) (names : List S) (kids : List Nt) (css : List (List V)) (hn : Vw st nv names) (hkv : NRs st kv css kids) (hz : vsz nv ≤ 200000000 ∧ vsz kv ≤ 200000000) (htl : text.n ≤ 100000) (hwell : QA (.mk kind text names kids) = true) (ih : ∀ t ∈ kids, QA t = true → RLn gl t) (y : V) (p : List S) (hy : Vw st y p) (hp : p.length + (Jae kids + 1) ≤ 600) (hps : ∀ s ∈ p, s.n ≤ 64) :
  Says Tryz.prog gl 30 [.agg [.int .u8 (kind : Int), .str text, nv, kv], y] st (fun v st' => (∃ ts : List S, ts.map S.toList = Qv (.mk kind text names kids) p ∧ Mine st.ctr 9 st' v (ts.map .str)) ∧ Keep st st') := by
 refine JS (NY.no _ rfl rfl rfl _ _) Tryz.func30 rfl (by kernel_rfl) fun R hR K gr gn => ?_
 generalize hfr : Jx gl [.agg [.int .u8 (kind : Int), .str text, nv, kv], y] = fr
 have hF : Fs gl [(0, .agg [.int .u8 (kind : Int), .str text, nv, kv]), (1, y)] fr := by subst hfr; simp [Fs]
 simp only [Fs] at hF
 clear hfr
 have ho : ([.int .u8 (kind : Int), .str text, nv, kv] : List V).all Qn = true := by simp only [List.all_cons, hn.one, hkv.s.one]; rfl
 generalize hcs : ([.int .u8 (kind : Int), .str text, nv, kv] : List V) = cs at ho hF
 have kq := JJ st cs 25
 have cq := QO st cs 25
 have hb := Qc st cs 25
 have hT := NB.new (st := st) (cs := cs)
 generalize Q4 st cs 25 = q at kq hb hT cq
 rw [← hcs] at hT
 obtain ⟨l0, l1, l2, l3, _⟩ := hT.ld
 obtain ⟨v, q2, hc1, ⟨pt, rfl, hpt⟩, hq2⟩ := Says.use (JlF gl q y p (hy.keep kq) (by omega) (fun s h => by have := hps s h; omega))
 rw [show q2 = q from hq2] at hc1
 clear hq2
 have hptn : pt.n ≤ 39001 := by rw [← S.len, hpt]; exact JeD (by omega) hps
 obtain ⟨v, q3, hc2, ⟨et, rfl, het⟩, hq3⟩ := Says.use (JnA gl q pt (by omega))
 rw [show q3 = q from hq3] at hc2
 clear hq3
 rw [hpt] at het
 have hetn : et.n ≤ 156100 := by rw [← S.len, het]; exact JlQ (by omega) hps
 obtain ⟨v, q5, hce, ⟨xt, rfl, hxt⟩, hq5⟩ := Says.use (JmZ gl q text (by omega))
 rw [show q5 = q from hq5] at hce
 clear hq5
 have hxn : xt.n ≤ 200000 := by
  have h1 := congrArg List.length hxt
  have h2 := JbC text.toList
  rw [S.len] at h1
  rw [S.len] at h2
  omega
 have ads : ∀ kk (c : S) (r : List UInt8), c.n ≤ 1000000 → r.length ≤ 1000 → Jn Tryz.prog kk .add 9 (.str c) (.str (S.ofList r)) = some (.str (c.app (S.ofList r))) := fun kk c r hc hr => Jai (by rw [Qu]; omega)
 refine Ks_ (Ka_ (gs := [none, none]) fun K1 gK => ?_)
 simp (disch := omega) [hF, Ja, ho, hb]
 refine gK _ _ (Ks_ (Ka_ (gs := [none, none, none, none]) fun K1 gK => ?_))
 simp (disch := omega) [hF, hc1, hc2]
 refine gK _ _ (Ks_ (Ks_ (Ka_ (gs := [none, none]) fun K1 gK => ?_)))
 simp (disch := omega) [gN0, l0]
 refine gK _ _ ?_
 refine Kb_ fun K1 gn1 gx1 go1 => ?_
 have gr1 := fun fr st h => go1 AE.ret fr st trivial (gr fr st h)
 refine Ks_ (Ka_ (gs := [none, none]) fun K1 gK => ?_)
 simp (disch := omega) []
 refine gK _ _ ?_
 by_cases k1 : kind = 1
 ·
  refine Kt_ (by simp (disch := omega) [k1]) ?_
  have a1 := fun kk => ads kk et [32, 102, 32] (by omega) (by simp)
  have a2 : ∀ kk, Jn Tryz.prog kk .add 9 (.str (et.app (S.ofList [32, 102, 32]))) (.str xt) = some (.str ((et.app (S.ofList [32, 102, 32])).app xt)) := fun kk => Jai (by rw [JcT, Qu]; simp; omega)
  have hfold : ({ ctr := q.ctr + 1, box := q.box.put q.ctr (.cells [.str ((et.app (S.ofList [32, 102, 32])).app xt)] 9 true (some 0)) } : St) = q.new (.cells [.str ((et.app (S.ofList [32, 102, 32])).app xt)] 9 true (some 0)) := rfl
  have hmn := JoL (lo := st.ctr) (st := q) (cs := [.str ((et.app (S.ofList [32, 102, 32])).app xt)]) (by omega)
  simp only [List.length_cons, List.length_nil] at hmn
  refine Ks_ (Ka_ (gs := [none, none, none, none, none, none, none, none]) fun K1 gK => ?_)
  simp (disch := omega) [hF, gN1, l1, k1, a1, a2, hce, bs1, hfold, Jc, Qn]
  refine gK _ _ (Kq_ (gr1 _ _ ?_))
  simp [JC, Tryz.f30, hF]
  refine hR _ _ ?_
  exact ⟨⟨[(et.app (S.ofList [32, 102, 32])).app xt], by (rw [Je4 (.inl k1), List.map_cons, List.map_nil, S.toList_app, S.toList_app, S.toList_ofList, hxt, het, k1]; simp [Jie, JeC]), hmn⟩, kq.trans ((Keep.refl q).new' _)⟩
 ·
  refine Kf_ (by simp (disch := omega) [k1]) (Ks_ (Ka_ (gs := [none, none]) fun K1 gK => ?_))
  simp (disch := omega) [k1]
  refine gK _ _ ?_
  by_cases k3 : kind = 3
  ·
   refine Kt_ (by simp (disch := omega) [k3]) ?_
   have a1 := fun kk => ads kk et [32, 108, 32] (by omega) (by simp)
   have a2 : ∀ kk, Jn Tryz.prog kk .add 9 (.str (et.app (S.ofList [32, 108, 32]))) (.str xt) = some (.str ((et.app (S.ofList [32, 108, 32])).app xt)) := fun kk => Jai (by rw [JcT, Qu]; simp; omega)
   have hfold : ({ ctr := q.ctr + 1, box := q.box.put q.ctr (.cells [.str ((et.app (S.ofList [32, 108, 32])).app xt)] 9 true (some 0)) } : St) = q.new (.cells [.str ((et.app (S.ofList [32, 108, 32])).app xt)] 9 true (some 0)) := rfl
   have hmn := JoL (lo := st.ctr) (st := q) (cs := [.str ((et.app (S.ofList [32, 108, 32])).app xt)]) (by omega)
   simp only [List.length_cons, List.length_nil] at hmn
   refine Ks_ (Ka_ (gs := [none, none, none, none, none, none, none, none]) fun K1 gK => ?_)
   simp (disch := omega) [hF, gN1, l1, k3, a1, a2, hce, bs1, hfold, Jc, Qn]
   refine gK _ _ (Kq_ (gr1 _ _ ?_))
   simp [JC, Tryz.f30, hF]
   refine hR _ _ ?_
   exact ⟨⟨[(et.app (S.ofList [32, 108, 32])).app xt], by (rw [Je4 (.inr k3), List.map_cons, List.map_nil, S.toList_app, S.toList_app, S.toList_ofList, hxt, het, k3]; simp [Jie, JeC]), hmn⟩, kq.trans ((Keep.refl q).new' _)⟩
  ·
   refine Kf_ (by simp (disch := omega) [k3]) ?_
   obtain ⟨rfl, htz, hnk, hno, hwk⟩ := Jbu hwell k1 k3
   have h64 := JfP hno
   have hkl := JbZ kids
   have a3 := fun kk => ads kk et [32, 100] (by omega) (by simp)
   obtain ⟨b3, hb3⟩ : ∃ b3, et.app (S.ofList [32, 100]) = b3 := ⟨_, rfl⟩
   have hbl3 : b3.toList = JeC p ++ 32 :: [100] := by rw [← hb3, S.toList_app, het, S.toList_ofList]; rfl
   rw [hb3] at a3
   obtain ⟨u0, hu0⟩ : ∃ u, u = q := ⟨_, rfl⟩
   have hmn := JoL (lo := st.ctr + 1) (st := u0) (cs := [.str b3]) (by rw [hu0]; omega)
   have hfold : ({ ctr := q.ctr + 1, box := q.box.put q.ctr (.cells [.str b3] 9 true (some 0)) } : St) = u0.new (.cells [.str b3] 9 true (some 0)) := by rw [hu0]; rfl
   have ku : Keep q (u0.new (.cells [.str b3] 9 true (some 0))) := by rw [hu0]; exact (Keep.refl q).new' _
   have cu : (u0.new (.cells [.str b3] 9 true (some 0))).ctr = q.ctr + 1 := by rw [hu0]; rfl
   have huc : u0.ctr = q.ctr := by rw [hu0]
   simp only [List.length_cons, List.length_nil] at hmn
   rw [huc] at hmn
   generalize u0.new (.cells [.str b3] 9 true (some 0)) = u1 at hmn hfold ku cu
   refine Kk_ (gn1 _ _ (Ks_ (Ka_ (gs := [none, none, none, none]) fun K1 gK => ?_)))
   simp (disch := omega) [k3, a3, bs1, hfold, Jc, Qn]
   refine gK _ _ (Ks_ (Ks_ (Ka_ (gs := [none]) fun K1 gK => ?_)))
   simp (disch := omega) []
   refine gK _ _ ?_
   refine Kl_ (kids.length) (fun i fr st' => ∃ (out : V) (ts : List S), Fs gl [(1, y), (2, .ptr st.ctr 0), (6, out), (7, .int .i64 (i : Int))] fr ∧ i ≤ kids.length ∧ Keep q st' ∧ Mine (st.ctr + 1) 9 st' out (ts.map .str) ∧ ts.map S.toList = (JeC p ++ 32 :: [100]) :: JaL (kids.take i) names p) (0) (fun fr st' => ∃ (out : V) (ts : List S), Fs gl [(6, out)] fr ∧ Keep q st' ∧ Mine (st.ctr + 1) 9 st' out (ts.map .str) ∧ ts.map S.toList = Qv (.mk 2 text names kids) p) ?_ ?_ ?_ ?_
   ·exact ⟨.ms q.ctr 0 1 1 (some 1), [b3], by simp [Fs, hF, k1], Nat.zero_le _, ku, hmn, by rw [List.take_zero, Jcc, List.map_cons, hbl3]; rfl⟩
   ·rintro i fr st' ⟨out, ts, _, hi, hku, hmine, hts⟩
    omega
   ·as_aux_lemma =>
    clear hF
    rintro i fr st' ⟨out, ts, hF, hi, hku, hmine, hts⟩ K2 gk2 gx2 go2
    simp only [Fs] at hF
    have hT1 := hT.keep hku
    have n2 := hT1.ld.l2
    have hlk := hn.len Tryz.underlying22
    rw [hnk] at hlk
    refine Ks_ (Ks_ (Ka_ (gs := [none, none, none, none, none]) fun K1 gK => ?_))
    simp (disch := omega) [hF, gN2, n2, hlk]
    refine gK _ _ ?_
    by_cases hlt : i < kids.length
    ·
     refine Kt_ (by simp (disch := omega) [hlt]) ?_
     have hlt' : i < names.length := by omega
     have hls : i < css.length := by rw [hkv.l]; exact hlt
     have hkx := hkv.s.ix Tryz.underlying23 Jbh (k := .i64) (a := (i : Int)) (by omega) (by omega)
     have hns := hn.ix Tryz.underlying22 z9 (k := .i64) (a := (i : Int)) (by omega) (by omega)
     have hkc := hku.ctr
     have hy' := hy.keep (kq.trans hku)
     have FL : ∀ {u : St}, Keep st' u → Qe Tryz.prog u 22 (.ptr st.ctr 2) = some nv ∧ Qe Tryz.prog u 23 (.ptr st.ctr 3) = some kv ∧ Qe Tryz.prog u 9 (adr 1 nv i) = some (.str names[i]) ∧ Qe Tryz.prog u 25 (adr 4 kv i) = some (.agg css[i]) := fun {u} k => by
      have hT2 := (hT1.keep k).ld
      have kk := kq.trans (hku.trans k)
      exact ⟨hT2.l2, hT2.l3, (hn.keep kk).ld z9 a9 hlt', (hkv.keep kk).s.ld Jbh Jdo hls⟩
     obtain ⟨sA, hsA⟩ : ∃ s : St, s = { ctr := st'.ctr + 19, box := st'.box.put (st'.ctr + 6) (.cells [] 9 true (some 0)) } := ⟨_, rfl⟩
     have kA : Keep st' sA := by rw [hsA]; exact ((Keep.refl st').tick 19).put (by omega) _
     have cA : sA.ctr = st'.ctr + 19 := by rw [hsA]
     have gA : sA.box.get (st'.ctr + 6) = some (.cells [] 9 true (some 0)) := by rw [hsA]; simp [Tr.get_put]
     have m7 := JmR (lo := st'.ctr) (by omega) (by omega) gA
     obtain ⟨y9, s9, e9, low9, m9, v9⟩ := JjG m7 (hy'.keep kA).srcs (by omega) (by simp; omega)
     simp only [List.length_nil] at e9 m7 v9
     have c9 := low9.ctr
     obtain ⟨sC, hsC⟩ : ∃ s : St, s = { ctr := s9.ctr, box := s9.box.put (st'.ctr + 14) (.cells [.str names[i]] 9 true (some 0)) } := ⟨_, rfl⟩
     have gC : sC.box.get (st'.ctr + 14) = some (.cells [.str names[i]] 9 true (some 0)) := by rw [hsC]; simp [Tr.get_put]
     have cC : sC.ctr = s9.ctr := by rw [hsC]
     have oC : ∀ j, j ≠ st'.ctr + 14 → sC.box.get j = s9.box.get j := fun j hj => by rw [hsC]; show (s9.box.put (st'.ctr + 14) _).get j = _; rw [Tr.get_put, if_neg hj]
     have m9' : Mine st'.ctr 9 sC y9 ([] ++ p.map .str) := m9.stab (by omega) fun j hj => oC j (by
      rcases v9 j hj with h | h
      ·have : j = st'.ctr + 6 := h
       omega
      ·omega)
     have mC := (JmR (lo := st'.ctr) (by omega) (by omega) gC).src rfl
     obtain ⟨y16, s16, e16, low16, m16, v16⟩ := JjG m9' mC (by omega) (by simp; omega)
     simp only [List.length_cons, List.length_nil] at e16
     have hm16 : Mine st'.ctr 9 s16 y16 ((p ++ [names[i]]).map .str) := by simpa using m16
     have hkin := List.getElem_mem hlt
     have hnk1 := Jig hkin
     have c16 := low16.ctr
     have lowA : Low st'.ctr st' s16 := ((Low.of kA (Nat.le_refl _)).trans low9).trans (⟨by omega, fun j hj => by rw [low16.box j hj, oC j (by omega)]⟩)
     have low9' : Low st'.ctr st' s9 := (Low.of kA (Nat.le_refl _)).trans low9
     have k9' : Keep st' s9 := Low.keep low9' (.refl _) (Nat.le_refl _)
     have kC' : Keep st' sC := ⟨by omega, fun j hj => by rw [oC j (by omega)]; exact k9'.box j hj⟩
     have k16' : Keep st' s16 := Low.keep lowA (.refl _) (Nat.le_refl _)
     have hrk := hkv.r i hls hlt
     obtain ⟨v, s17, hcl, ⟨ts2, hts2, m17⟩, k17⟩ := Says.use (ih kids[i] hkin (hwk _ hkin) s16 css[i] y16 (p ++ [names[i]]) (hrk.keep (kq.trans (hku.trans k16'))) hm16.vw (by simp; omega) (Jks hps (h64 _ (List.getElem_mem hlt'))))
     have k17' : Keep st' s17 := k16'.trans k17
     have hlen2 : ts2.length ≤ 1000 := by
      have h1 := congrArg List.length hts2
      rw [List.length_map] at h1
      have := JcH kids[i] (p ++ [names[i]])
      omega
     have hlen1 : ts.length ≤ 1000 := by
      have h1 := congrArg List.length hts
      rw [List.length_map, List.length_cons] at h1
      have := JcX (kids.take i) names p
      have := Jco kids i
      omega
     have c17 := k17'.ctr
     obtain ⟨y18, s18, e18, low18, m18, v18⟩ := JjG (hmine.keep k17') (m17.src (JkB ts2)) (by omega) (by simp; omega)
     obtain ⟨fA2, fA3, fAn, fAk⟩ := FL kA
     obtain ⟨f92, f93, f9n, f9k⟩ := FL k9'
     obtain ⟨fC2, fC3, fCn, fCk⟩ := FL kC'
     obtain ⟨f62, f63, f6n, f6k⟩ := FL k16'
     obtain ⟨_, f03, f0n, f0k⟩ := FL (.refl st')
     have hvn : veq 1000000000 nv nv = true := Qz _ (by omega)
     have hvk : veq 1000000000 kv kv = true := Qz _ (by omega)
     have hvt1 := hrk.veq
     have hsA' := hsA.symm
     have hsC' := hsC.symm
     refine Kk_ (Ks_ ?_)
     refine Kb_ fun K3 gn3 gx3 go3 => ?_
     refine DoK.drawP (b := [0, 0, 2, 0, 14, 30, 0, 0, 192, 0, 512, 0, 3584, 7680, 15872, 32704, 65534, 131071, 262143]) (rs := [(6, 10), (1, 5), (16, 1), (0, 1), (17, 2)]) (gs := [none, none, none, none, none, none, none, none, none, none, none, none, none, none, none, none, none, none, none]) (by kernel_rfl) (by kernel_rfl) (by kernel_rfl) (by kernel_rfl) (by kernel_rfl) fun K1 gK => ?_
     simp only [Jac, Jb2, List.drop_zero, List.drop_succ_cons, List.take_succ_cons, List.take_zero, List.cons_append, List.nil_append]
     simp (disch := omega) [hF, gN2, gN3, bs1, n2, hlt, hkx, hns, f92, f93, f9n, f9k, f63, f6k, f03, f0n, f0k, hsA', hsC', e9, e16, hcl, e18, hvk, hvn, hvt1, bs0, bs1, Jc, Qn, Tryz.underlying22]
     refine gK _ _ (gn3 _ _ (Ka_ (gs := [none, none, none]) fun K1 gK => ?_))
     simp (disch := omega) [hF]
     refine gK _ _ ?_
     refine gk2 (i + 1) _ _ (by omega) ⟨y18, ts ++ ts2, by simp [Fs, hF], by omega, Low.keep low18 (hku.trans k17') (by omega), by simpa using m18, by (rw [List.map_append, hts, hts2, Jd0 kids names p i hlt hlt']; simp)⟩
    ·
     refine Kf_ (by simp (disch := omega) [hlt]) ?_
     exact Kx_ (gx2 _ _ ⟨out, ts, by simp [Fs, hF, hlt], hku, hmine, by (rw [hts, List.take_of_length_le (by omega), Jjt])⟩)
   ·as_aux_lemma =>
    clear hF
    rintro fr st' ⟨out, ts, hF, hku, hmine, hts⟩
    simp only [Fs] at hF
    refine Ks_ (Ka_ (gs := [none, none]) fun K1 gK => ?_)
    simp (disch := omega) [hF]
    refine gK _ _ (Kq_ (gr _ _ ?_))
    simp [JC, Tryz.f30, hF]
    refine hR _ _ ?_
    exact ⟨⟨ts, hts, hmine.low (by omega)⟩, kq.trans hku⟩
omit [NZ] [NO] in
theorem JoH (gl : Gl) : ∀ t : Nt, t.fit → QA t = true → RLn gl t := Nt.ind fun kind text names kids ih hf hw st cs y p h hy hp hps => by
 cases hf with
 | mk _ _ _ _ ht hnl hkl hns hks =>
 cases h with
 | mk kind text nv kv names kids css hk hn hs hl hz hr =>
  exact JlR gl st kind text nv kv names kids css hn ⟨hs, hl, hr⟩ hz ht hw (fun t ht hw => ih t ht (hks t ht) hw) y p hy (by simpa only [Nt.nodes] using hp) hps
set_option maxRecDepth 100000 in
omit [NZ] [NO] in
theorem JlS (gl : Gl) (st : St) (cs : List V) (t : Nt) (hr : NR st cs t) (hf : t.fit) (hnd : t.nodes ≤ 600) :
  Says Tryz.prog gl 11 [.agg cs] st (fun v st' => Jkt st t v st' ∧ Keep st st') := by
 refine JS (NY.no _ rfl rfl rfl _ _) Tryz.func11 rfl (by kernel_rfl) fun R hR K gr gn => ?_
 generalize hfr : Jx gl [.agg cs] = fr
 have hF : Fs gl [(0, .agg cs)] fr := by subst hfr; simp [Fs]
 simp only [Fs] at hF
 clear hfr
 have ho := hr.ones
 have kq := JJ st cs 25
 have hb := Qc st cs 25
 have hT := NB.new (st := st) (cs := cs)
 generalize Q4 st cs 25 = q at kq hb hT
 have hr := hr.keep kq
 have hld : ∀ {s : St}, Keep q s → Qe Tryz.prog s 25 (.ptr st.ctr 0) = some (.agg cs) := fun k => by
  have hT := hT.keep k
  cases hr with
  | mk => exact hT.ld.l
 have l0 := hld (.refl q)
 obtain ⟨v, s1, hc, rfl, hk1⟩ := Says.use (JfU gl t hf q cs hr)
 have l1 := hld hk1
 obtain ⟨v, s2, hc2, rfl, hk2⟩ := Says.use (JmQ gl t hf s1 cs (hr.keep hk1))
 have l2 := hld (hk1.trans hk2)
 obtain ⟨WN, hWN⟩ : ∃ b, QA t = b := ⟨_, rfl⟩
 simp only [Jkt] at hR
 rw [hWN] at hc hR
 cases WN with
 | true =>
  obtain ⟨v, s3, hc3, ⟨ts, hts, hm⟩, hk3⟩ := Says.use (JoH gl t hf hWN s2 cs .nils [] (hr.keep (hk1.trans hk2)) .nils (by simp; omega) (fun s h => by cases h))
  have hk := kq.trans (hk1.trans hk2)
  refine Ks_ (Ka_ (gs := [none, none, none]) fun K1 gK => ?_)
  simp (disch := omega) [hF, Ja, ho, hb]
  refine gK _ _ (Ks_ (Ks_ (Ka_ (gs := [none, none, none, none, some (some 7, false), some (some 7, false), some (some 7, false), none]) fun K1 gK => ?_)))
  simp (disch := omega) [hF, l0, hc, l1, hc2]
  refine gK _ _ (Kf_ (by simp (disch := omega) []) (Kk_ (Ks_ (Ka_ (gs := [none, none, none, none]) fun K1 gK => ?_))))
  simp (disch := omega) [hF, l2, hc3]
  refine gK _ _ (Kq_ (gr _ _ ?_))
  simp [JC, Tryz.f11, hF]
  refine hR _ _ ?_
  exact ⟨⟨_, ts, rfl, hts, hm.low hk.ctr⟩, hk.trans hk3⟩
 | false =>
  refine Ks_ (Ka_ (gs := [none, none, none]) fun K1 gK => ?_)
  simp (disch := omega) [hF, Ja, ho, hb]
  refine gK _ _ (Ks_ (Ks_ (Ka_ (gs := [none, none, none, none, some (some 7, false), some (some 7, false), some (some 7, false), none]) fun K1 gK => ?_)))
  simp (disch := omega) [hF, l0, hc]
  refine gK _ _ (Kt_ (by simp (disch := omega) []) (Ks_ (Ka_ (gs := [none, none]) fun K1 gK => ?_)))
  simp (disch := omega) []
  refine gK _ _ (Kq_ (gr _ _ ?_))
  simp [JC, Tryz.f11, hF]
  refine hR _ _ ?_
  exact ⟨⟨_, [], rfl, rfl, .nils⟩, kq.trans hk1⟩
end Go.Vm
