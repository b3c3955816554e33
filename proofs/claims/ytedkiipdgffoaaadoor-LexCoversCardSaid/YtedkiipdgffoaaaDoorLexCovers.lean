/- The law LexCovers holds, its tied card: its call returns true, whatever string it is handed, on every tape, the listed package-level variable being as the program's text lays it; nothing that was there is changed. No condition. -/
import Derived.Test.YtedkiipdgffoaaaDoorRows
import Derived.WalkKit
import Derived.ProofKit
import Derived.OpenShut
import Derived.Carry
import Derived.ChangeMaps5
import Derived.SliceStrings
import Derived.LaidMore
import Derived.Lay
import Derived.Stop.Joined
import Derived.SevenTiedAt
import Derived.Test.YtedkiipdgffoaaaDoorTie
import Derived.Test.YtedkiipdgffoaaaDoorCards
import Derived.Test.YtedkiipdgffoaaaDoorVmMemo
import Derived.Test.YtedkiipdgffoaaaDoorLy5
import Derived.Test.YtedkiipdgffoaaaDoorLy6
namespace Go.Proofs.YtedkiipdgffoaaaDoor.lexCovers
open Go Go.ChangeShapes Go.WideShapes Go.ChangeAt Go.RowKit Go.ChangeMaps

theorem own : ownKnob Tryd.prog.godebug = none := by kernel_rfl
theorem mixed : Tryd.prog.follows .mixedOrders = true := by kernel_rfl
theorem errs : ∀ tp, (none : Option TypeId) = some tp → ∀ u, Tryd.prog.typeName? 3 u = some "*errors.errorString" → u = tp := fun tp h => by cases h

/-! ### The walk: by the evaluator's equations. -/
abbrev laid : List (String × DataW Unit) := [("touchstone/lex.operators", Rows.laid_touchstone_lex_operators)]
abbrev use : List String := ["touchstone/lex.operators"]
theorem gl_ok : Vm.glOf Tryd.prog none laid use = some Vm.lexGl := by kernel_rfl

def sOf (b : ByteArray) : Vm.S := Vm.S.ofList b.data.toList
theorem r_str (g : Vm.Gh) (b : ByteArray) : Vm.R g (.str (sOf b)) (.string b) := by
  have h : (⟨⟨(sOf b).toList⟩⟩ : ByteArray) = b := by
    rw [show (sOf b).toList = b.data.toList from Vm.dec_enc _]
  have := Vm.R.str (g := g) (sOf b)
  rw [h] at this
  exact this

theorem walk (W : World) (b : ByteArray) (hl : laidMetH Tryd.prog laid W) :
    Calls Tryd.prog 5 ⟨[.string b]⟩ W fun e w' => e = .returned (.bool true) ∧ Below W.heap.size W w' := by
  letI : Vm.Memo := Vm.worksMemo
  letI : Vm.NL := Vm.works_nl
  rw [MakeChecks.laidMetH_plain _ _ _ (by kernel_rfl)] at hl
  have hg := Vm.GlV_of_laidMet errs gl_ok hl
  obtain ⟨v, st', hW, hv⟩ := Vm.lawCovers_ok Vm.lexGl Vm.lexGl_get Vm.works_hit ⟨0, .nil⟩ (sOf b)
  obtain rfl : v = .bool true := hv
  obtain ⟨N, hN⟩ := Vm.W_fuel hW rfl
  have hs := Vm.sound mixed W.heap.size (Vm.memo_ok Vm.works_rules _) N Vm.lexGl (.f 5) [.str (sOf b)] ⟨0, .nil⟩
  have hih : Vm.ihCall (Vm.X Tryd.prog N) Vm.lexGl (.f 5) [.str (sOf b)] ⟨0, .nil⟩ = .val (.bool true) st' := by simp [Vm.ihCall, hN]
  rw [hih] at hs
  refine (hs _ W _ ⟨hg, rfl⟩ (Vm.Inv.empty W) (.cons _ _ _ _ (r_str _ b) .nil)).mono ?_
  rintro e w' ⟨g', c, rfl, h1, _, h3⟩
  cases h1
  exact ⟨rfl, h3.below⟩

set_option maxRecDepth 100000 in
theorem lifted (os : Os) (started : os.Started) (H : Type) (enc : TypeId × Value → H) :
    ReturnsInHanded {} Tryd.checked os 5 .any (fun w args => (Rows.lexCoversSpec.pre enc Tryd.prog Tryd.f5 [] false w args ∧ laidMetH Tryd.prog laid w) ∧ sizedMet enc Tryd.prog Tryd.f5 (OpenSpec.ofChange Rows.lexCoversSpec) false w args)
      (Rows.lexCoversSpec.post enc Tryd.prog Tryd.f5 false true false false) := by
  refine returnsInHanded_of_change_and (C := Tryd.checked) (X := fun w _ => laidMetH Tryd.prog laid w) (fun _ _ _ hh h => h.of_heap hh) own started (by kernel_rfl) Tryd.func5
    (ChangeSpec.witness_shaped (enc := enc) (C := Tryd.checked) (os := os) (X := fun w _ => laidMetH Tryd.prog laid w) false (World.laidAll Tryd.prog os laid) #[.string ⟨#[]⟩] 8 (World.laidAll_os _ _ _) (World.shaped_of_ZipB (by kernel_rfl) (by kernel_rfl)) (by kernel_rfl) (by kernel_rfl) (by kernel_rfl)
      (by rw [MakeChecks.laidMetH_plain _ _ _ (by kernel_rfl)]; exact laidMet_laidAll _ (by kernel_rfl) (by kernel_rfl))) ?_
  intro W base args ds gs before hval0 hW _ _ hL _
  have hval : ∀ (j : Nat) t v, Tryd.f5.params[j]? = some t → args[j]? = some v → Value.okWide Tryd.prog W .any base t v := hval0
  have hW' := hW
  obtain ⟨p, q, hA0, hV, rfl, hfz, hnd⟩ := hW
  have hA : DataW.TrodAll enc Tryd.prog W 0 (fun _ => true) true Tryd.f5.params.toList args.toList ds p := hA0
  rw [Tryd.params5] at hA hval
  obtain ⟨v1, r1, d1, e1, p1, q1, ha1, rfl, rfl, t1, hA1⟩ := trodAll_cons hA
  obtain ⟨h5, rfl, rfl⟩ := trodAll_nil hA1
  subst h5
  obtain ⟨rfl, rfl⟩ := trodVars_none hV
  obtain ⟨args⟩ := args
  simp only at ha1
  subst ha1
  clear hA0 hval0 hA hA1
  have k1 := t1
  obtain ⟨b, rfl, rfl, rfl, _⟩ := open_string Tryd.underlying9 (hval 0 9 v1 rfl rfl) t1
  refine (walk W b hL).mono fun e W' ⟨he, hg⟩ => ?_
  subst he
  have lo : laidOutB Tryd.prog = true := by kernel_rfl
  exact ⟨_, rfl, _, _, _, [], _, [], hW', (trodAll_cons_mk (shut_bool Tryd.underlying4 _) trodAll_mk0),
    trodAll_cons_mk (Below.trod lo (by kernel_rfl) (of_decide_eq_true (by kernel_rfl)) k1 hg (fun _ h => by cases h)) trodAll_mk0,
    rfl, hg.frame _, fun h => by cases h⟩

theorem over : Rows.lexCoversRow.holds Tryd.pinned (OpenSpec.ofChange Rows.lexCoversSpec) :=
  OpenClaim.holds_of_wide 5 Tryd.f5 rfl rfl rfl rfl rfl rfl rfl ⟨rfl, rfl, rfl, rfl, rfl⟩ rfl rfl rfl rfl rfl (by kernel_rfl) Tryd.func5 (by kernel_rfl)
    (of_decide_eq_true (by kernel_rfl)) (by unfold Func.isWrapper; first | (rw [if_pos (by decide +kernel)]; kernel_rfl) | (rw [if_neg (by decide +kernel)]; exact ⟨rfl, rfl⟩))
    (fun os started H enc _ => lifted os started H enc)

/-- ████ THE TIED CARD ████ -/
theorem proved : Rows.LexCoversCardSaid :=
  Claim7.holds_tied_plain_at .later [] [.widerDeep] true (true, "8612ac893cc689ba0174c6e6d384d75c5935e281db4bfb3598b331bdcb193a54") false
    over (fun _ h => by cases h) (by kernel_rfl) (fun _ h => by cases h) lexCovers_row_tie rfl ⟨rfl, rfl⟩ (by kernel_rfl) rfl
    (fun f fn hf hfn => by
      obtain rfl : f = 5 := Option.some.inj ((show Tryd.prog.funcNamed "touchstone/touchstonelaw01.LexCovers" = some 5 by kernel_rfl).symm.trans hf) |>.symm
      obtain rfl : fn = Tryd.f5 := (Option.some.inj (Tryd.func5.symm.trans hfn)).symm
      exact ⟨by kernel_rfl, fun j t ht => by
        rw [Tryd.params5] at ht
        have h9 : t = 9 := by
          cases j with
          | zero => simpa using ht.symm
          | succ j => simp at ht
        rw [h9]
        have hw : Tryd.prog.wantsStandIn 9 = false := by kernel_rfl
        exact hw⟩)
    (by kernel_rfl)
end Go.Proofs.YtedkiipdgffoaaaDoor.lexCovers
