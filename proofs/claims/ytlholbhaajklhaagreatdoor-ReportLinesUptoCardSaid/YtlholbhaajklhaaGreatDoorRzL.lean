/- The text of scenarios: by the document; the law ReportAll by the program. -/
import Derived.Test.YtlholbhaajklhaaGreatDoorRzK
namespace Go.Vm
open Go Go.Proofs Go.Pa
attribute [local simp] OkS Qz OkG Qi Qo OkD JZ Qg JK Jd Jk vop Jp Jy ev evs toV Ji Fr.dsTo Fr.glTo Fr.toNone Jf Jg Jh J9 QA Jc JF Jq V.undef JT JQ Qb J2 J3 J7 Qc Qd JN J4 Qe J8 JP Qf JB Jv Jw JD JG Jt JR JS JI J6
variable [Memo] [NY] [NZ] [NO]
variable [NA]
end Go.Vm
namespace Go.Vm
open Go Go.Proofs Go.Pa
attribute [local simp] OkS Qz OkG Qi Qo OkD JZ Qg JK Jd Jk vop Jp Jy ev evs toV Ji Fr.dsTo Fr.glTo Fr.toNone Jf Jg Jh J9 QA Jc JF Jq V.undef JT JQ Qb J2 J3 J7 Qc Qd JN J4 Qe J8 JP Qf JB Jv Jw JD JG Jt JR JS JI J6
def NoNl (l : List UInt8) : Prop := ∀ b ∈ l, b ≠ 10
theorem NoNl.app {a b : List UInt8} (h : NoNl a) (k : NoNl b) : NoNl (a ++ b) := fun x hx => by
 rcases List.mem_append.1 hx with h1 | h1
 ·exact h x h1
 ·exact k x h1
theorem NoNl.of {l : List UInt8} (h : (l.all fun b => b != 10) = true) : NoNl l := fun b hb => by
 have := List.all_eq_true.1 h b hb
 simpa using this
theorem Jcs : ∀ l : List UInt8, NoNl (esc l)
 | [] => fun b hb => by cases hb
 | a :: l => by
  have e : esc (a :: l) = Jc9 a ++ esc l := by simp [esc]
  rw [e]
  refine NoNl.app ?_ (Jcs l)
  intro b hb
  unfold Jc9 at hb
  split at hb
  ·simp at hb; rcases hb with rfl | rfl <;> decide
  ·split at hb
   ·simp at hb; subst hb; decide
   ·simp at hb; subst hb; assumption
theorem JkA : ∀ {l : List UInt8}, NoNl l → NoNl (Jaz l)
 | [], _ => fun b hb => by cases hb
 | a :: l, h => by
  have e : Jaz (a :: l) = (if a = 58 then [92, 58] else [a]) ++ Jaz l := by simp [Jaz]
  rw [e]
  refine NoNl.app ?_ (JkA fun b hb => h b (by simp [hb]))
  intro b hb
  split at hb
  ·simp at hb; rcases hb with rfl | rfl <;> decide
  ·simp at hb; subst hb; exact h _ (by simp)
theorem JjJ : ∀ d n : Nat, NoNl (Jns d n)
 | 0, _ => fun b hb => by cases hb
 | d + 1, n => by
  unfold Jns
  refine NoNl.app ?_ ?_
  ·split
   ·exact fun b hb => by cases hb
   ·exact JjJ d _
  ·intro b hb
   simp only [List.mem_singleton] at hb
   subst hb
   intro h
   have h1 := congrArg UInt8.toNat h
   have h2 : (10 : UInt8).toNat = 10 := rfl
   rw [h2, UInt8.toNat_ofNat'] at h1
   omega
theorem JmN (p : List S) : NoNl (Jh7 p) := JkA (Jcs _)
theorem JkB (l : List Fw) (n : Int) : NoNl (Jh8 l n) := JmN _
theorem JoU (l : List Fw) (ref : Int) (kind : Nat) (text : S) (base : Int) : NoNl (Jhl l ref kind text base) := by
 unfold Jhl
 cases decide (0 ≤ ref)
 ·cases decide (kind = 0)
  ·cases decide (kind = 1)
   ·cases decide (kind = 3)
    ·refine NoNl.app (.of rfl) ?_
     unfold Jhk
     cases decide (0 ≤ base)
     ·exact .of rfl
     ·exact NoNl.app (.of rfl) (JkB l base)
    ·exact NoNl.app (.of rfl) (Jcs _)
   ·exact NoNl.app (.of rfl) (Jcs _)
  ·exact .of rfl
 ·exact NoNl.app (.of rfl) (JkB l ref)
mutual
theorem JiL (l : List Fw) : ∀ (t : Tw) (p : List S), ∀ z ∈ Qm l t p, NoNl z
 | .mk ref kind text base nv names kv kids, p, z, hz => by
  simp only [Qm, List.mem_cons] at hz
  rcases hz with rfl | hz
  ·exact ((JmN p).app (.of rfl)).app (JoU l ref kind text base)
  ·cases h : decide (0 ≤ ref) with
   | true => rw [h, cond_true] at hz; cases hz
   | false => rw [h, cond_false] at hz; exact Jg7 l kids names p z hz
theorem Jg7 (l : List Fw) : ∀ (ts : List Tw) (ns p : List S), ∀ z ∈ Jag l ts ns p, NoNl z
 | [], ns, p, z, hz => by rw [JbP] at hz; cases hz
 | t :: ts, [], p, z, hz => by simp [Jag] at hz
 | t :: ts, n :: ns, p, z, hz => by
  simp only [Jag, List.mem_append] at hz
  rcases hz with hz | hz
  ·exact JiL l t _ z hz
  ·exact Jg7 l ts ns p z hz
end
theorem JoV (f : Fw) : NoNl (Jek f) := by
 unfold Jek
 cases !f.known
 ·cases decide (f.kind = 0)
  ·cases decide (f.kind = 1)
   ·cases decide (f.kind = 3)
    ·cases decide (f.rest = 1)
     ·cases decide (f.rest = 2)
      ·exact .of rfl
      ·exact NoNl.app (.of rfl) (JjJ _ _)
     ·exact .of rfl
    ·exact .of rfl
   ·exact .of rfl
  ·exact .of rfl
 ·exact .of rfl
theorem JmO (l : List Fw) (y : Nat × List S) : NoNl (JdK l y) := by
 unfold JdK
 split
 ·exact ((Jcs _).app (.of rfl)).app (JoV _)
 ·exact fun b hb => by cases hb
theorem JjK (s : Sw) : NoNl (JbB s) ∧ ∃ b r, JbB s = b :: r ∧ b ≠ 32 := by
 have hd : NoNl (cond s.inc (esc s.why.toList) (Jdo s.code.toNat)) := by
  cases s.inc
  ·exact JjJ _ _
  ·exact Jcs _
 have hc := JeD s
 unfold JbB
 rcases hc with h | h | h <;> rw [h] <;> exact ⟨NoNl.app (.of rfl) hd, _, _, rfl, by decide⟩
theorem JjL (s : Sw) : ∃ rest, JbM s = JbB s :: rest ∧ ∀ z ∈ rest, NoNl z ∧ ∃ r, z = 32 :: r := by
 refine ⟨_, rfl, fun z hz => ?_⟩
 have hp : ∀ w t, NoNl w → NoNl t → NoNl (Jat w t) ∧ ∃ r, Jat w t = 32 :: r := fun w t h k => ⟨((NoNl.app (.of rfl) h).app (.of rfl)).app k, _, rfl⟩
 simp only [List.mem_append, List.mem_map] at hz
 rcases hz with (⟨y, hy, rfl⟩ | ⟨y, hy, rfl⟩) | hz
 ·unfold Jdm at hy
  obtain ⟨q, _, rfl⟩ := List.mem_map.1 hy
  exact hp _ _ (.of rfl) (JmO _ _)
 ·exact hp _ _ (.of rfl) (JiL _ _ _ _ hy)
 ·unfold JgH at hz
  revert hz
  cases decide (s.out.n = 0) <;> cases decide (s.err.n = 0) <;> simp only [cond_true, cond_false, List.mem_append, List.mem_singleton, List.not_mem_nil, false_or, or_false] <;> intro hz
  ·rcases hz with rfl | rfl <;> exact hp _ _ (.of rfl) (Jcs _)
  ·subst hz; exact hp _ _ (.of rfl) (Jcs _)
  ·subst hz; exact hp _ _ (.of rfl) (Jcs _)
  ·cases hz
def hds (b : Bool) : List UInt8 → Nat
 | [] => 0
 | x :: r => (if x ≠ 32 ∧ b = true then 1 else 0) + hds (x == 10) r
theorem JmP : ∀ {z : List UInt8} (r : List UInt8), NoNl z → hds false (z ++ 10 :: r) = hds true r
 | [], r, _ => by simp [hds]
 | a :: z, r, h => by
  have ha : (a == 10) = false := by have := h a (by simp); simpa using this
  rw [List.cons_append, hds, ha, JmP r fun b hb => h b (by simp [hb])]
  simp
theorem JiM {a : UInt8} {z : List UInt8} (r : List UInt8) (h : NoNl (a :: z)) : hds true ((a :: z) ++ 10 :: r) = (if a ≠ 32 then 1 else 0) + hds true r := by
 have ha : (a == 10) = false := by have := h a (by simp); simpa using this
 rw [List.cons_append, hds, ha, JmP r fun b hb => h b (by simp [hb])]
 simp
theorem Jg8 : ∀ {l : List (List UInt8)} (r : List UInt8), (∀ z ∈ l, NoNl z ∧ ∃ t, z = 32 :: t) → hds true ((l.flatMap fun z => z ++ [10]) ++ r) = hds true r
 | [], r, _ => rfl
 | z :: l, r, h => by
  obtain ⟨h1, t, rfl⟩ := h z (by simp)
  rw [List.flatMap_cons, List.append_assoc, List.append_assoc, List.singleton_append, JiM _ h1, Jg8 r fun y hy => h y (by simp [hy])]
  simp
theorem JnP (s : Sw) (r : List UInt8) : hds true (JgB s ++ r) = 1 + hds true r := by
 obtain ⟨rest, h1, h2⟩ := JjL s
 obtain ⟨h3, b, t, h4, h5⟩ := JjK s
 unfold JgB
 rw [h1, h4, List.flatMap_cons, List.append_assoc, List.append_assoc, List.singleton_append, JiM _ (h4 ▸ h3), Jg8 r h2]
 simp [h5]
theorem JkC : ∀ l : List Sw, hds true (allB l) = l.length
 | [] => rfl
 | s :: l => by
  have : allB (s :: l) = JgB s ++ allB l := by simp [allB]
  rw [this, JnP, JkC l, List.length_cons]; omega
theorem JkD : ∀ l : List Sw, Jbe 0 l + Jbe 1 l + Jbe 2 l = l.length
 | [] => rfl
 | s :: l => by
  have := JkD l
  unfold Jbe at this ⊢
  rcases JeD s with h | h | h <;> simp only [List.countP_cons, h, JnU, JnV, JnW, JnX, JnY, JnZ, Nat.beq_refl, List.length_cons, if_true, if_false, Bool.false_eq_true] <;> omega
theorem JmQ {s : S} {i : Nat} (h : i < s.n) (b : Bool) : hds b (s.toList.drop i) = (if s.at i ≠ 32 ∧ b = true then 1 else 0) + hds (decide (s.at i = 10)) (s.toList.drop (i + 1)) := by
 have hl := S.at_lt s i
 have e : ∀ k : Nat, k < 256 → (UInt8.ofNat (s.at i) = UInt8.ofNat k ↔ s.at i = k) := fun k hk => by
  constructor
  ·intro h
   have := congrArg UInt8.toNat h
   rw [UInt8.toNat_ofNat', UInt8.toNat_ofNat'] at this
   omega
  ·intro h; rw [h]
 rw [S.drop_at s h, hds]
 have h1 : (UInt8.ofNat (s.at i) ≠ 32) = (s.at i ≠ 32) := by rw [show (32 : UInt8) = UInt8.ofNat 32 from rfl]; simp only [ne_eq, e 32 (by decide)]
 have h2 : (UInt8.ofNat (s.at i) == 10) = decide (s.at i = 10) := by
  rw [show (10 : UInt8) = UInt8.ofNat 10 from rfl]
  by_cases h : s.at i = 10
  ·rw [h]; rfl
  ·rw [decide_eq_false h, beq_eq_false_iff_ne]; exact fun hh => h ((e 10 (by decide)).1 hh)
 simp only [h1, h2]
def Jct (s : S) (i : Nat) : Bool := decide (i = 0) || decide (s.at (i - 1) = 10)
theorem JmR : ∀ {l : List Sw}, (∀ s ∈ l, s.ok) → (∀ s ∈ l, s.small) → JgC l = true → (allB l).length ≤ 1000001000 * l.length
 | [], _, _, _ => Nat.zero_le _
 | s :: l, h, k, hM => by
  have hM' : Jda s = true ∧ JgC l = true := by simpa [JgC] using hM
  have h1 := JmR (l := l) (fun x hx => h x (by simp [hx])) (fun x hx => k x (by simp [hx])) hM'.2
  have h2 := (Jm3 (k s (by simp)) (h s (by simp)) hM'.1 (ts := (JbM s).map S.ofList) (by simp [Function.comp_def])).2.2.1
  have h3 : allB (s :: l) = JgB s ++ allB l := by simp [allB]
  rw [h3, List.length_append, List.length_cons]; omega
theorem Jbv (s : S) (i : Nat) : Jct s (i + 1) = decide (s.at i = 10) := by simp [Jct]
variable [Memo] [NY] [NZ] [NO] [NA]
set_option maxHeartbeats 8000000 in
set_option maxRecDepth 100000 in
theorem law6 (gl : Gl) {aL : List V} (hh : Hits gl aL) (hw0 : gl.get 0 = some classV) (hw1 : gl.get 1 = some kindsV) (hw2 : gl.get 2 = some wordsV) (st : St) (lv : V) (l : List Sw) (hl : Row Sw.cells lv l) (hok : ∀ s ∈ l, s.ok) (hsz : ∀ s ∈ l, vtots s.cells ≤ 100000000) (hlen : l.length ≤ 1000000000) :
  Says Tryz.prog gl 6 [lv] st (fun v _st' => v = .bool true) := by
 refine Qr (NY.no _ rfl rfl rfl _ _) Tryz.func6 rfl (by kernel_rfl) fun R hR K gr gn => ?_
 generalize hfr : JH gl [lv] = fr
 have hF : Fs gl [(0, lv)] fr := by subst hfr; simp [Fs]
 simp only [Fs] at hF
 clear hfr
 have ln := hl.len Tryz.underlying38
 obtain ⟨v, s1, hc1, ⟨b, rfl, hsm⟩, hk1⟩ := Says.use (Jn0 gl st lv l hl hok hsz (by omega)) (by kernel_rfl)
 obtain ⟨v, sa, hca, rfl, hsa⟩ := Says.use (JlU gl s1) (by kernel_rfl)
 rw [show sa = s1 from hsa] at hca
 clear hsa
 have uN : QL Tryz.prog (fun l => Op.unary .not (l.getD 0 undef)) [.bool true] = some (.bool false) := by kernel_rfl
 cases b with
 | true =>
  refine Ks_ (Kr_ (gs := [none]) (by kernel_rfl) fun K1 gK => ?_)
  simp (disch := omega) []
  refine gK _ _ ?_
  refine Ks_ ?_
  refine Ks_ (Kr_ (gs := [none, none, none, some (some 12, false), some (some 12, false), none]) (by kernel_rfl) fun K1 gK => ?_)
  simp (disch := omega) [hF, hc1]
  refine gK _ _ ?_
  refine Kt_ (by simp (disch := omega) []) ?_
  refine Ks_ (Kr_ (gs := [none, none]) (by kernel_rfl) fun K1 gK => ?_)
  simp (disch := omega) [hF, hca]
  refine gK _ _ ?_
  refine Kq_ (gr _ _ ?_)
  simp [JM, Tryz.f6, hF]
  refine hR _ _ ?_
  rfl
 | false =>
  obtain ⟨hlen, hs⟩ := hsm rfl
  obtain ⟨v, s4, hc4, rfl, hk4⟩ := Says.use (JlA gl s1 lv l hl hok (by omega)) (by kernel_rfl)
  obtain ⟨v, s2, hc2, ⟨t, rfl, ht⟩, hk2⟩ := Says.use (JpR gl hh hw0 hw1 hw2 s4 lv l hl hok hs hlen) (by kernel_rfl)
  have hsum := JkD l
  have hne : ∀ kk, Jn Tryz.prog kk .neq 3 (.int .i64 ((Jbe 0 l : Int) + (Jbe 1 l : Int) + (Jbe 2 l : Int))) (.int .i64 (l.length : Int)) = some (.bool false) := fun kk => by
   rw [show (Jbe 0 l : Int) + (Jbe 1 l : Int) + (Jbe 2 l : Int) = (l.length : Int) by omega, J2]; simp
  obtain ⟨M, hM⟩ : ∃ b, JgC l = b := ⟨_, rfl⟩
  rw [hM] at hc2 ht
  refine Ks_ (Kr_ (gs := [none]) (by kernel_rfl) fun K1 gK => ?_)
  simp (disch := omega) []
  refine gK _ _ ?_
  refine Ks_ ?_
  refine Ks_ (Kr_ (gs := [none, none, none, some (some 12, false), some (some 12, false), none]) (by kernel_rfl) fun K1 gK => ?_)
  simp (disch := omega) [hF, hc1, hca]
  refine gK _ _ ?_
  refine Kf_ (by simp (disch := omega) []) ?_
  refine Kk_ ?_
  refine Ks_ (Kr_ (gs := [none, none, none, none, none, none, none, none, none]) (by kernel_rfl) fun K1 gK => ?_)
  simp (disch := omega) [hF, hc4, JbK]
  refine gK _ _ ?_
  refine Ks_ ?_
  refine Ks_ (Kr_ (gs := [none, none, none, none, none, none, none, none]) (by kernel_rfl) fun K1 gK => ?_)
  simp (disch := omega) [hF, ln, hne]
  refine gK _ _ ?_
  refine Kf_ (by simp (disch := omega) []) ?_
  refine Kk_ ?_
  refine Ks_ (Kr_ (gs := [none, none, none, none, none, none, none]) (by kernel_rfl) fun K1 gK => ?_)
  simp (disch := omega) [hF, hc2]
  refine gK _ _ ?_
  refine Ks_ ?_
  refine Ks_ (Kr_ (gs := [none, none]) (by kernel_rfl) fun K1 gK => ?_)
  simp (disch := omega) []
  refine gK _ _ ?_
  cases M with
  | true =>
   refine Kf_ (by simp (disch := omega) []) ?_
   rw [cond_true] at ht
   have hh0 := JkC l
   rw [← ht] at hh0
   have lt := Q6 Tryz.underlying9 (s := t)
   have htn : t.n ≤ 1000000000000 := by
    have h1 := JmR hok hs hM
    rw [← ht, S.len] at h1
    omega
   refine Kk_ ?_
   refine Ks_ (Kr_ (gs := [none]) (by kernel_rfl) fun K1 gK => ?_)
   simp (disch := omega) []
   refine gK _ _ ?_
   refine Ks_ ?_
   refine Ks_ (Kr_ (gs := [none]) (by kernel_rfl) fun K1 gK => ?_)
   simp (disch := omega) []
   refine gK _ _ ?_
   refine Kl_ (t.n) (fun i fr st' => ∃ (h : Nat), Fs gl [(0, lv), (6, .str t), (8, .int .i64 (h : Int)), (9, .int .i64 (i : Int))] fr ∧ i ≤ t.n ∧ h + hds (Jct t i) (t.toList.drop i) = l.length) (0) (fun fr st' => Fs gl [(0, lv), (8, .int .i64 (l.length : Int))] fr ∧ True) ?_ ?_ ?_ ?_
   ·exact ⟨0, by simp [Fs, hF], Nat.zero_le _, by rw [Nat.zero_add]; exact hh0⟩
   ·rintro i fr st' ⟨h, _, hi, hinv⟩
    omega
   ·as_aux_lemma =>
    clear hF
    rintro i fr st' ⟨h, hF, hi, hinv⟩ K1 gk1 gx1 go1
    simp only [Fs] at hF
    refine Ks_ ?_
    refine Ks_ (Kr_ (gs := [none, none, none, none]) (by kernel_rfl) fun K1 gK => ?_)
    simp (disch := omega) [hF, lt]
    refine gK _ _ ?_
    by_cases hlt : i < t.n
    ·
     refine Kt_ (by simp (disch := omega) [hlt]) ?_
     rw [JmQ hlt] at hinv
     have hx0 := Jak (P := Tryz.prog) (k := .i64) Tryz.underlying9 hlt
     obtain ⟨A, hA⟩ : ∃ b, decide (t.at i = 32) = b := ⟨_, rfl⟩
     have g1 : ∀ kk, Jn Tryz.prog kk .neq 5 (.int .u8 ((t.at i : Nat) : Int)) (.int .u8 32) = some (.bool (!A)) := fun kk => by rw [← hA]; exact J4
     obtain ⟨B, hB⟩ : ∃ b, decide (i = 0) = b := ⟨_, rfl⟩
     have g2 : ∀ kk, Jn Tryz.prog kk .eql 3 (.int .i64 (i : Int)) (.int .i64 0) = some (.bool B) := fun kk => by rw [← hB]; exact JN
     cases A with
     | true =>
      have hA := of_decide_eq_true hA
      refine Kk_ ?_
      refine Ks_ ?_
      refine Kb_ fun K2 gn2 gx2 go2 => ?_
      refine Ks_ (Kr_ (gs := [none, none, none, none, none, some (some 50, true), some (some 50, true), some (some 50, true), some (some 53, false), some (some 53, false), some (some 53, false), some (some 53, false), some (some 53, false), some (some 50, true), none]) (by kernel_rfl) fun K1 gK => ?_)
      simp (disch := omega) [hF, hlt, hx0, g1]
      refine gK _ _ ?_
      refine Kf_ (by simp (disch := omega) []) ?_
      refine Kk_ ?_
      refine gn2 _ _ ?_
      refine Kr_ (gs := [none, none, none]) (by kernel_rfl) fun K1 gK => ?_
      simp (disch := omega) [hF]
      refine gK _ _ ?_
      refine gk1 (i + 1) _ _ (by omega) ⟨h, by simp [Fs, hF], by omega, by rw [if_neg (by simp [hA])] at hinv; rw [Jbv]; omega⟩
     | false =>
      have hA := of_decide_eq_false hA
      cases B with
      | true =>
       have hB := of_decide_eq_true hB
       have hb1 : Jct t i = true := by simp [Jct, hB]
       rw [if_pos ⟨hA, hb1⟩] at hinv
       refine Kk_ ?_
       refine Ks_ ?_
       refine Kb_ fun K3 gn3 gx3 go3 => ?_
       refine Ks_ (Kr_ (gs := [none, none, none, none, none, some (some 50, true), some (some 50, true), some (some 50, true), some (some 53, false), some (some 53, false), some (some 53, false), some (some 53, false), some (some 53, false), some (some 50, true), none]) (by kernel_rfl) fun K1 gK => ?_)
       simp (disch := omega) [hF, hlt, hx0, g1, g2]
       refine gK _ _ ?_
       refine Kt_ (by simp (disch := omega) []) ?_
       refine Kr_ (gs := [none, none, none]) (by kernel_rfl) fun K1 gK => ?_
       simp (disch := omega) [hF]
       refine gK _ _ ?_
       refine gn3 _ _ ?_
       refine Kr_ (gs := [none, none, none]) (by kernel_rfl) fun K1 gK => ?_
       simp (disch := omega) [hF]
       refine gK _ _ ?_
       refine gk1 (i + 1) _ _ (by omega) ⟨h + 1, by simp [Fs, hF], by omega, by rw [Jbv]; omega⟩
      | false =>
       have hB := of_decide_eq_false hB
       have gs : ∀ kk, Jn Tryz.prog kk .sub 3 (.int .i64 (i : Int)) (.int .i64 1) = some (.int .i64 ((i - 1 : Nat) : Int)) := fun kk => by rw [JG, Jt (by omega) (by omega)]; congr 2; omega
       have hx1 := Jak (P := Tryz.prog) (k := .i64) Tryz.underlying9 (s := t) (i := i - 1) (by omega)
       obtain ⟨C, hC⟩ : ∃ b, decide (t.at (i - 1) = 10) = b := ⟨_, rfl⟩
       have g3 : ∀ kk, Jn Tryz.prog kk .eql 5 (.int .u8 ((t.at (i - 1) : Nat) : Int)) (.int .u8 10) = some (.bool C) := fun kk => by rw [← hC]; exact JN
       have hb1 : Jct t i = C := by rw [Jct, decide_eq_false hB, hC]; rfl
       cases C with
       | true =>
        rw [if_pos ⟨hA, hb1⟩] at hinv
        refine Kk_ ?_
        refine Ks_ ?_
        refine Kb_ fun K4 gn4 gx4 go4 => ?_
        refine Ks_ (Kr_ (gs := [none, none, none, none, none, some (some 50, true), some (some 50, true), some (some 50, true), some (some 53, false), some (some 53, false), some (some 53, false), some (some 53, false), some (some 53, false), some (some 50, true), none]) (by kernel_rfl) fun K1 gK => ?_)
        simp (disch := omega) [hF, hlt, hx0, g1, g2, gs, hx1, g3]
        refine gK _ _ ?_
        refine Kt_ (by simp (disch := omega) []) ?_
        refine Kr_ (gs := [none, none, none]) (by kernel_rfl) fun K1 gK => ?_
        simp (disch := omega) [hF]
        refine gK _ _ ?_
        refine gn4 _ _ ?_
        refine Kr_ (gs := [none, none, none]) (by kernel_rfl) fun K1 gK => ?_
        simp (disch := omega) [hF]
        refine gK _ _ ?_
        refine gk1 (i + 1) _ _ (by omega) ⟨h + 1, by simp [Fs, hF], by omega, by rw [Jbv]; omega⟩
       | false =>
        rw [if_neg (by simp [hb1])] at hinv
        refine Kk_ ?_
        refine Ks_ ?_
        refine Kb_ fun K5 gn5 gx5 go5 => ?_
        refine Ks_ (Kr_ (gs := [none, none, none, none, none, some (some 50, true), some (some 50, true), some (some 50, true), some (some 53, false), some (some 53, false), some (some 53, false), some (some 53, false), some (some 53, false), some (some 50, true), none]) (by kernel_rfl) fun K1 gK => ?_)
        simp (disch := omega) [hF, hlt, hx0, g1, g2, gs, hx1, g3]
        refine gK _ _ ?_
        refine Kf_ (by simp (disch := omega) []) ?_
        refine Kk_ ?_
        refine gn5 _ _ ?_
        refine Kr_ (gs := [none, none, none]) (by kernel_rfl) fun K1 gK => ?_
        simp (disch := omega) [hF]
        refine gK _ _ ?_
        refine gk1 (i + 1) _ _ (by omega) ⟨h, by simp [Fs, hF], by omega, by rw [Jbv]; omega⟩
    ·
     refine Kf_ (by simp (disch := omega) [hlt]) ?_
     have he : h = l.length := by rw [List.drop_eq_nil_of_le (by rw [S.len]; omega)] at hinv; simpa [hds] using hinv
     exact Kx_ (gx1 _ _ ⟨by simp [Fs, hF, he],  trivial⟩)
   ·as_aux_lemma =>
    clear hF
    rintro fr st' ⟨hF, _⟩
    simp only [Fs] at hF
    refine Ks_ (Kr_ (gs := [none, none, none, none, none]) (by kernel_rfl) fun K1 gK => ?_)
    simp (disch := omega) [hF, ln]
    refine gK _ _ ?_
    refine Kq_ (gr _ _ ?_)
    simp [JM, Tryz.f6, hF]
    refine hR _ _ ?_
    rfl
  | false =>
   refine Kt_ (by simp (disch := omega) []) ?_
   rw [cond_false] at ht
   have hes : t.same (S.ofList []) = true := by rw [S.same_eq, ht]; simp
   refine Ks_ (Kr_ (gs := [none, none, none]) (by kernel_rfl) fun K1 gK => ?_)
   simp (disch := omega) [hes]
   refine gK _ _ ?_
   refine Kq_ (gr _ _ ?_)
   simp [JM, Tryz.f6, hF]
   refine hR _ _ ?_
   rfl
end Go.Vm
