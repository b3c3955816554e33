/- All of scenarios: are they too great; how many are of each class: by the program. -/
import Derived.Test.YtphinjijaglokaaGreatDoorSzC
namespace Go.Vm
open Go Go.Proofs Go.Pa
attribute [local simp] OkS Qi OkG Qh Qp OkD JY Qr JI Jm Jq vop Js JB ev evs toV Jl Fr.dsTo Fr.glTo Fr.toNone Ji Jj Jk Qk QL Jd JD Jv V.undef JW JM J7 JX J3 J9 J8 Qa JH J4 J5 JZ JO Qb Jt Ju Jw Jz JE Jr JL JN JK Qq
variable [Memo] [NY]
end Go.Vm
namespace Go.Vm
open Go Go.Proofs Go.Pa
attribute [local simp] OkS Qi OkG Qh Qp OkD JY Qr JI Jm Jq vop Js JB ev evs toV Jl Fr.dsTo Fr.glTo Fr.toNone Ji Jj Jk Qk QL Jd JD Jv V.undef JW JM J7 JX J3 J9 J8 Qa JH J4 J5 JZ JO Qb Jt Ju Jw Jz JE Jr JL JN JK Qq
theorem Jgc {P : Program} {kk : Bool} {T : TypeId} {x y : S} (h : x.n + y.n < 1000000000000000) : Jn P kk .add T (.str x) (.str y) = some (.str (x.app y)) := by
 have : Nat.ble (Nat.add x.n y.n) maxStr = true := Nat.ble_eq_true_of_le (by show x.n + y.n ≤ maxStr; unfold maxStr; omega)
 simp only [Jn, this]
def JpA (b : Nat) (st : St) (l : List UInt8) : Prop := (st.box.get b = some (.cells [.nilp, .nils] 42 true (some 0)) ∧ l = [] ∧ b < st.ctr) ∨ (Bld b b st l ∧ l ≠ [])
theorem Jc3 (st : St) (n : Nat) : Keep st { ctr := st.ctr + n, box := st.box } := ⟨Nat.le_add_right _ _, fun _ _ => rfl⟩
theorem Jmz {st : St} {t : TypeId} : Jbq Tryz.prog st t .nilp (.int .i64 0) = some (.str ⟨0, 0⟩, st) := by simp only [Jbq, JaQ]
variable [Memo] [NY] [NZ]
omit [NZ] in
set_option maxRecDepth 100000 in
theorem JjO (gl : Gl) (st : St) (b : Nat) (hb : st.box.get b = some (.cells [.nilp, .nils] 42 true (some 0))) (hbc : b < st.ctr) :
  Says Tryz.prog gl 24 [.ptr b 0] st (fun v st' => v = .str ⟨0, 0⟩ ∧ Low b st st') := by
 refine JS (NY.no _ rfl rfl rfl _ _) Tryz.func24 rfl (by kernel_rfl) fun R hR K gr gn => ?_
 generalize hfr : Jx gl [.ptr b 0] = fr
 have hF : Fs gl [(0, .ptr b 0)] fr := by subst hfr; simp [Fs]
 simp only [Fs] at hF
 clear hfr
 have l1 := Qd (P := Tryz.prog) (off := 1) a91 z91 hb rfl
 have ln : Jab Tryz.prog 40 .nils = some (.int .i64 0) := by simp only [Jab, u91]
 refine Ks_ (Ka_ (gs := [none]) fun K1 gK => ?_)
 simp (disch := omega) []
 refine gK _ _ (Ks_ (Kh_ (b := [0, 1, 3, 7, 15, 0, 32, 96, 224, 480, 1023, 2047]) (gs := [none, none, none, none, none, none, none, none, none, none, none, none]) fun K1 gK => ?_))
 simp (disch := omega) [hF, fb1, l1, ln, Jmz]
 refine gK _ _ (Kq_ (gr _ _ ?_))
 simp [JC, Tryz.f24, hF]
 refine hR _ _ ?_
 exact ⟨rfl, Low.of (Jc3 _ _) (by omega)⟩
omit [NZ] in
theorem JjP (gl : Gl) (st : St) (b : Nat) (l : List UInt8) (hb : JpA b st l) (hl : l.length ≤ 1000000000000) :
  Says Tryz.prog gl 24 [.ptr b 0] st fun v st' => (∃ t : S, v = .str t ∧ t.toList = l) ∧ Low b st st' := by
 rcases hb with ⟨h1, rfl, h3⟩ | h
 ·exact (JjO gl st b h1 h3).mono fun v st' ⟨h, k⟩ => ⟨⟨_, h, rfl⟩, k⟩
 ·exact JeR gl st b b l h.1 hl h.2
variable [NO]
end Go.Vm
