/- The law OptsRows holds: its call returns true, whatever known letters, letters told and words it is handed, on every tape; nothing that was there is changed. No condition. -/
import Derived.Test.YtajfpccgknoafaaRows
import Derived.WalkKit
import Derived.ProofKit
import Derived.OpenShut
import Derived.Carry
import Derived.ChangeMaps5
import Derived.SliceStrings
import Derived.Test.YtajfpccgknoafaaRowG
namespace Go.Proofs.Ytajfpccgknoafaa.optsRows
open Go.ChangeShapes Go.WideShapes Go.ChangeAt Go.RowKit Go.ChangeMaps Go.ChangeShapes

theorem own : ownKnob Try.prog.godebug = none := by kernel_rfl
theorem mixed : Try.prog.follows .mixedOrders = true := by kernel_rfl

/-! ### The walk: by the evaluator's equations. -/
def sOf (b : ByteArray) : Vm.S := Vm.S.ofList b.data.toList

theorem r_str (g : Vm.Gh) (b : ByteArray) : Vm.R g (.str (sOf b)) (.string b) := by
  have h : (⟨⟨(sOf b).toList⟩⟩ : ByteArray) = b := by
    rw [show (sOf b).toList = b.data.toList from Vm.dec_enc _]
  have := Vm.R.str (g := g) (sOf b)
  rw [h] at this
  exact this

theorem rs_strs (g : Vm.Gh) : ∀ l : List ByteArray, Vm.Rs g ((l.map sOf).map .str) (l.map .string)
  | [] => .nil
  | b :: l => .cons _ _ _ _ (r_str g b) (rs_strs g l)

theorem walk (W : World) (b b2 : ByteArray) (v3 : Value) (ss : List ByteArray) (hl : ss.length ≤ 9223372036854775807)
    (h2 : (v3 = .slice none 0 0 ∧ ss = []) ∨ ∃ bl o cap, v3 = .slice (some ⟨bl, o, none⟩) ss.length cap ∧ ss.length ≤ cap ∧ ∀ i c, ss[i]? = some c → W.cell? ⟨bl, o + i, none⟩ = some (.string c)) :
    Calls Try.prog 3 ⟨[.string b, .string b2, v3]⟩ W fun e w' => e = .returned (.bool true) ∧ Below W.heap.size W w' := by
  letI : Vm.Memo := Vm.worksMemo
  letI : Vm.NR := Vm.works_nr
  have hx : ∃ x, Vm.Vw ⟨0, .nil⟩ x (ss.map sOf) ∧ Vm.R (Vm.worldGh W) x v3 := by
    rcases h2 with ⟨rfl, rfl⟩ | ⟨bl, o, cap, rfl, hc, hcell⟩
    · exact ⟨.nils, .nils, .nils⟩
    · refine ⟨.sl (ss.map sOf).length ((ss.map sOf).map .str) false, .sl _ _, ?_⟩
      rw [List.length_map]
      refine .sl _ _ _ bl o cap (ss.map .string) (rs_strs _ ss) (fun i c hi => ?_) hc (fun h => by cases h)
      rw [List.getElem?_map] at hi
      obtain ⟨s, hs, rfl⟩ := Option.map_eq_some_iff.1 hi
      exact hcell i s hs
  obtain ⟨x, hv, hr⟩ := hx
  obtain ⟨v, st', hW, rfl⟩ := Vm.rows_ok .nil Vm.works_hit (sOf b) (sOf b2) x (ss.map sOf) hv (by simpa using hl)
  obtain ⟨N, hN⟩ := Vm.W_fuel hW rfl
  have hs := Vm.sound mixed W.heap.size (Vm.memo_ok Vm.works_rules _) N .nil (.f 3) [.str (sOf b), .str (sOf b2), x] ⟨0, .nil⟩
  have hih : Vm.ihCall (Vm.X Try.prog N) .nil (.f 3) [.str (sOf b), .str (sOf b2), x] ⟨0, .nil⟩ = .val (.bool true) st' := by simp [Vm.ihCall, hN]
  rw [hih] at hs
  refine (hs _ W _ ⟨Vm.GlV.nil _, rfl⟩ (Vm.Inv.empty W) (.cons _ _ _ _ (r_str _ b) (.cons _ _ _ _ (r_str _ b2) (.cons _ _ _ _ hr .nil)))).mono ?_
  rintro e w' ⟨g', c, rfl, h1, _, h3⟩
  cases h1
  exact ⟨rfl, h3.below⟩

set_option maxRecDepth 100000 in
theorem lifted (os : Os) (started : os.Started) (H : Type) (enc : TypeId × Value → H) :
    ReturnsInHanded {} Try.checked os 3 .any (Rows.optsRowsSpec.pre6 enc Try.prog Try.f3 Rows.optsRowsRow.domain false) (Rows.optsRowsSpec.post enc Try.prog Try.f3 false true false false) := by
  refine returnsInHanded_of_change (C := Try.checked) own started (by kernel_rfl) Try.func3
    (ChangeSpec.witness6 (enc := enc) (C := Try.checked) false ⟨#[], #[.string ⟨#[]⟩, .string ⟨#[]⟩, .slice none 0 0], []⟩ 8 (by kernel_rfl) (by kernel_rfl) (by kernel_rfl) (by kernel_rfl)) ?_
  intro W base args ds gs before hval0 hW hcnd _
  have hval : ∀ (j : Nat) t v, Try.f3.params[j]? = some t → args[j]? = some v → Value.okWide Try.prog W .any base t v := hval0
  have hW' := hW
  obtain ⟨p, q, hA0, hV, rfl, hfz, hnd⟩ := hW
  have hA : DataW.TrodAll enc Try.prog W 0 (fun _ => true) true Try.f3.params.toList args.toList ds p := hA0
  rw [Try.params3] at hA hval
  obtain ⟨v1, r1, d1, e1, p1, q1, ha1, rfl, rfl, t1, hA1⟩ := trodAll_cons hA
  obtain ⟨v2, r2, d2, e2, p2, q2, rfl, rfl, rfl, t2, hA2⟩ := trodAll_cons hA1
  obtain ⟨v3, r3, d3, e3, p3, q3, rfl, rfl, rfl, t3, hA3⟩ := trodAll_cons hA2
  obtain ⟨h5, rfl, rfl⟩ := trodAll_nil hA3
  subst h5
  obtain ⟨rfl, rfl⟩ := trodVars_none hV
  obtain ⟨args⟩ := args
  simp only at ha1
  subst ha1
  clear hA0 hval0 hA hA1 hA2 hA3
  have k1 := t1
  have k2 := t2
  have k3 := t3
  obtain ⟨b, rfl, rfl, rfl, _⟩ := open_string Try.underlying9 (hval 0 9 v1 rfl rfl) t1
  obtain ⟨b2, rfl, rfl, rfl, _⟩ := open_string Try.underlying9 (hval 1 9 v2 rfl rfl) t2
  have ok2 := hval 2 22 v3 rfl rfl
  obtain ⟨a, len, cap, rfl⟩ := okWide_slice Try.underlying22 ok2
  obtain ⟨fuel, hf⟩ := t3
  have h2 : ∃ ss : List ByteArray, ss.length ≤ 9223372036854775807 ∧ ((Value.slice a len cap = .slice none 0 0 ∧ ss = []) ∨ ∃ bl o cap', Value.slice a len cap = .slice (some ⟨bl, o, none⟩) ss.length cap' ∧ ss.length ≤ cap' ∧ ∀ i c, ss[i]? = some c → W.cell? ⟨bl, o + i, none⟩ = some (.string c)) := by
    rcases open_strings Try.underlying22 Try.underlying9 (by kernel_rfl) hf with ⟨hcs, _⟩ | ⟨a', len', cap', ss, hcs, _, hl, hm, hz, _, hcell, _⟩
    · have : Value.slice a len cap = .slice none 0 0 := by simpa [Value.cells] using hcs
      exact ⟨[], by simp, .inl ⟨this, rfl⟩⟩
    · have h0 : Value.slice a len cap = .slice (some a') len' cap' := by simpa [Value.cells] using hcs
      obtain ⟨rfl, rfl, rfl⟩ : a = some a' ∧ len = len' ∧ cap = cap' := by simpa using h0
      have hspot : a'.spot = none := by
        simp only [Value.okWide, Try.underlying22, Cell.okWide, Cell.ok, World.has] at ok2
        exact ok2.2.2.2.1
      obtain ⟨bl, o, sp⟩ := a'
      simp only at hspot
      subst hspot
      have hz' : ss.length = cap := hz
      refine ⟨ss.take len, by simp only [List.length_take]; simp only [maxLen] at hm; omega, .inr ⟨bl, o, cap, ?_, ?_, fun i c hi => ?_⟩⟩
      · rw [List.length_take, hz', Nat.min_eq_left hl]
      · rw [List.length_take, hz', Nat.min_eq_left hl]; exact hl
      · rw [List.getElem?_take] at hi
        split at hi
        · have hi' : i < ss.length := (List.getElem?_eq_some_iff.1 hi).1
          have h1 := hcell i hi'
          have h3 : ss.getD i ByteArray.empty = c := by rw [List.getD_eq_getElem?_getD, hi]; rfl
          rw [h3] at h1
          have h4 : (⟨bl, o, none⟩ : Addr).add i = ⟨bl, o + i, none⟩ := by
            unfold Addr.add
            split
            · rename_i h0; subst h0; rfl
            · rfl
          rw [h4] at h1
          exact h1
        · cases hi
  obtain ⟨ss, hl, h2⟩ := h2
  have hlt : ∀ x ∈ p3, x.block < W.heap.size := fun x hx => by simpa using hW'.lt x (by simp [hx])
  refine (walk W b b2 _ ss hl h2).mono fun e W' ⟨he, hg⟩ => ?_
  subst he
  have lo : laidOutB Try.prog = true := by kernel_rfl
  exact ⟨_, rfl, _, _, _, [], _, [], hW', (trodAll_cons_mk (shut_bool Try.underlying4 _) trodAll_mk0),
    trodAll_cons_mk (Below.trod lo (by kernel_rfl) (of_decide_eq_true (by kernel_rfl)) k1 hg (fun _ h => by cases h)) (trodAll_cons_mk (Below.trod lo (by kernel_rfl) (of_decide_eq_true (by kernel_rfl)) k2 hg (fun _ h => by cases h))
      (trodAll_cons_mk (Below.trod lo (by kernel_rfl) (of_decide_eq_true (by kernel_rfl)) k3 hg hlt) trodAll_mk0)),
    rfl, hg.frame _, fun h => by cases h⟩

theorem over : Rows.optsRowsRow.holds Try.pinned (OpenSpec.ofChange Rows.optsRowsSpec) :=
  OpenClaim.holds_of_wide 3 Try.f3 rfl rfl rfl rfl rfl rfl rfl ⟨rfl, rfl, rfl, rfl, rfl⟩ rfl rfl rfl rfl rfl (by kernel_rfl) Try.func3 (by kernel_rfl)
    (of_decide_eq_true (by kernel_rfl)) (by unfold Func.isWrapper; first | (rw [if_pos (by decide +kernel)]; kernel_rfl) | (rw [if_neg (by decide +kernel)]; exact ⟨rfl, rfl⟩))
    (fun os started H enc _ => lifted os started H enc)

/-- ████ THE STATEMENT ████ -/
theorem proved : Rows.OptsRowsSaid :=
  over
end Go.Proofs.Ytajfpccgknoafaa.optsRows
