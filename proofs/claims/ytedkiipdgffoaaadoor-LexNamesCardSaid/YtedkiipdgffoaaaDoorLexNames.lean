/- The closed statement LexNames holds, its tied card: the law's call returns true, on every tape, the listed package-level variables being as the program's text lays them; nothing that was there is changed. No condition. -/
import Derived.Test.YtedkiipdgffoaaaDoorRows
import Derived.WalkKit
import Derived.ProofKit
import Derived.OpenShut
import Derived.LaidMore
import Derived.Lay
import Derived.Stop.Joined
import Derived.SevenTiedAt
import Derived.Test.YtedkiipdgffoaaaDoorTie
import Derived.Test.YtedkiipdgffoaaaDoorCards
import Derived.Test.YtedkiipdgffoaaaDoorVmMemo
import Derived.Test.YtedkiipdgffoaaaDoorLexA
namespace Go.Proofs.YtedkiipdgffoaaaDoor.lexNames
open Go Go.ChangeShapes Go.WideShapes Go.ChangeAt Go.RowKit

theorem own : ownKnob Tryd.prog.godebug = none := by kernel_rfl

/-! ### The walk: by the evaluator. -/
abbrev laid : List (String × DataW Unit) := [("touchstone/lex.operators", Rows.laid_touchstone_lex_operators)]
abbrev use : List String := ["touchstone/lex.operators"]
noncomputable def gl : Vm.Gl := ((.nil : Vm.Gl).put 0 [.str (Vm.S.ofList [38, 38]), .str (Vm.S.ofList [124, 124]), .str (Vm.S.ofList [59, 59]), .str (Vm.S.ofList [60, 60]), .str (Vm.S.ofList [62, 62]), .str (Vm.S.ofList [59]), .str (Vm.S.ofList [38]), .str (Vm.S.ofList [124]), .str (Vm.S.ofList [60]), .str (Vm.S.ofList [62]), .str (Vm.S.ofList [40]), .str (Vm.S.ofList [41])])
theorem gl_ok : Vm.glOf Tryd.prog none laid use = some gl := by kernel_rfl
theorem mixed : Tryd.prog.follows .mixedOrders = true := by kernel_rfl
theorem errs : ∀ tp, (none : Option TypeId) = some tp → ∀ u, Tryd.prog.typeName? 3 u = some "*errors.errorString" → u = tp := fun tp h => by cases h
theorem gl_free : gl.allB (fun l => l.all (Vm.freeV true 50)) = true := by kernel_rfl

/-- so many bytes -/
theorem known_many (n c : Nat) (hn : n < 1000000) (hc : c < 256) : Vm.EntOk Tryd.prog gl ⟨11, [.int .i64 (n : Int), .int .u8 (c : Int)], .str (Vm.reps n c)⟩ := by
  letI : Vm.Memo := Vm.Memo.none
  obtain ⟨v, st1, h1, rfl⟩ := Vm.many_ok gl ⟨0, .nil⟩ n c hn
  rw [Vm.ofList_replicate n c hc] at h1
  obtain ⟨N, hN⟩ := Vm.W_fuel h1 rfl
  exact Vm.entOk_of_none mixed gl_free rfl rfl hN

/-- no zero is among them -/
theorem known_index (n c d : Nat) (hc : c < 256) (hd : UInt8.ofNat c ≠ UInt8.ofNat d) : Vm.EntOk Tryd.prog gl ⟨16, [.str (Vm.reps n c), .int .u8 (d : Int)], .int .i64 (-1)⟩ := by
  letI : Vm.Memo := Vm.Memo.none
  have h1 := Vm.strings_index gl ⟨0, .nil⟩ (Vm.reps n c) d
  rw [Vm.toList_reps n c hc, show Lib.indexByte (List.replicate n (UInt8.ofNat c)) d.toUInt8 = -1 from Vm.indexByte_replicate _ _ hd n] at h1
  obtain ⟨N, hN⟩ := Vm.W_fuel h1 rfl
  exact Vm.entOk_of_none mixed gl_free rfl rfl hN

/-- the word that they are -/
noncomputable def wordRule : Vm.Rule := ⟨26, fun args st => match args with
  | [.ptr id off] => match Nat.beq off 0 with
    | true => match Vm.trGet st.box id with
      | some (.cells (.str s :: .int .i64 (.ofNat m) :: _) _ _ _) => match Nat.beq m 0 with
        | true => match Nat.beq s.n 16384 with
          | true => match Nat.beq s.x (Vm.reps 16384 97).x with
            | true => some (.tup [.int .i64 16384, .bool true], st)
            | false => none
          | false => none
        | false => none
      | _ => none
    | false => none
  | _ => none⟩

theorem word_known : Vm.RuleOk Tryd.prog gl wordRule := by
  refine Vm.ruleOk_of_X mixed fun args st v st' h => ?_
  letI : Vm.Memo := Vm.Memo.none
  simp only [wordRule] at h
  split at h
  · rename_i id off
    split at h
    · rename_i ho
      split at h
      · rename_i s m rest e fl fz hb
        split at h
        · rename_i hm
          split at h
          · rename_i hn
            split at h
            · rename_i hx
              simp only [Option.some.injEq, Prod.mk.injEq] at h
              obtain ⟨rfl, rfl⟩ := h
              obtain rfl := Nat.eq_of_beq_eq_true ho
              obtain rfl := Nat.eq_of_beq_eq_true hm
              have hs : s = Vm.reps 16384 97 := Vm.reps_of s 16384 97 (Nat.eq_of_beq_eq_true hn) (Nat.eq_of_beq_eq_true hx)
              subst hs
              rw [Vm.trGet_eq] at hb
              exact Vm.W_fuel (Vm.word_ok gl st 16384 id rest e fl fz (by decide) hb) rfl
            · cases h
          · cases h
        · cases h
      · cases h
    · cases h
  · cases h

noncomputable def known : List Vm.Rule := [wordRule, (⟨11, [.int .i64 16384, .int .u8 97], .str (Vm.reps 16384 97)⟩ : Vm.Ent).rule, (⟨11, [.int .i64 16385, .int .u8 39], .str (Vm.reps 16385 39)⟩ : Vm.Ent).rule, (⟨16, [.str (Vm.reps 16384 97), .int .u8 0], .int .i64 (-1)⟩ : Vm.Ent).rule]

theorem known_ok : ∀ e ∈ known, Vm.RuleOk Tryd.prog gl e :=
  Vm.rules_cons word_known <| Vm.rules_cons (known_many 16384 97 (by decide) (by decide)).rule <| Vm.rules_cons (known_many 16385 39 (by decide) (by decide)).rule <| Vm.rules_cons (known_index 16384 97 0 (by decide) (by decide)).rule Vm.rules_nil
theorem run_ends : @Vm.fendsG Tryd.prog (Vm.memoOf gl known) gl 1000000 3 = true := by kernel_rfl

theorem walk (w : World) (h : laidMetH Tryd.prog laid w) : Calls Tryd.prog 3 #[] w fun e w' => e = .returned (.bool true) ∧ Below w.heap.size w w' :=
  Vm.calls_of_memo_laid mixed known_ok errs (by kernel_rfl) gl_ok run_ends w h

set_option maxRecDepth 100000 in
theorem lifted (os : Os) (started : os.Started) (H : Type) (enc : TypeId × Value → H) :
    ReturnsInHanded {} Tryd.checked os 3 .any (fun w args => (Rows.lexNamesSpec.pre enc Tryd.prog Tryd.f3 [] false w args ∧ laidMetH Tryd.prog laid w) ∧ sizedMet enc Tryd.prog Tryd.f3 (OpenSpec.ofChange Rows.lexNamesSpec) false w args)
      (Rows.lexNamesSpec.post enc Tryd.prog Tryd.f3 false true false false) := by
  refine returnsInHanded_of_change_and (C := Tryd.checked) (X := fun w _ => laidMetH Tryd.prog laid w) (fun _ _ _ hh h => h.of_heap hh) own started (by kernel_rfl) Tryd.func3
    (ChangeSpec.witness_shaped (enc := enc) (C := Tryd.checked) (os := os) (X := fun w _ => laidMetH Tryd.prog laid w) false (World.laidAll Tryd.prog os laid) #[] 8 (World.laidAll_os _ _ _) (World.shaped_of_ZipB (by kernel_rfl) (by kernel_rfl)) (by kernel_rfl) (by kernel_rfl) (by kernel_rfl)
      (by rw [MakeChecks.laidMetH_plain _ _ _ (by kernel_rfl)]; exact laidMet_laidAll _ (by kernel_rfl) (by kernel_rfl))) ?_
  intro W base args ds gs before hval0 hW _ _ hL _
  have hval : ∀ (j : Nat) t v, Tryd.f3.params[j]? = some t → args[j]? = some v → Value.okWide Tryd.prog W .any base t v := hval0
  have hW' := hW
  obtain ⟨p, q, hA0, hV, rfl, hfz, hnd⟩ := hW
  have hA : DataW.TrodAll enc Tryd.prog W 0 (fun _ => true) true Tryd.f3.params.toList args.toList ds p := hA0
  rw [Tryd.params3] at hA hval
  obtain ⟨rfl, rfl, rfl⟩ := trodAll_none hA
  obtain ⟨rfl, rfl⟩ := trodVars_none hV
  clear hA0 hval0
  simp only [List.append_nil] at hW'
  refine (walk W hL).mono fun e W' ⟨he, hg⟩ => ?_
  subst he
  exact ⟨_, rfl, _, _, _, [], [], [], hW', (trodAll_cons_mk (shut_bool Tryd.underlying4 _) trodAll_mk0), rfl, rfl, hg.frame _, fun h => by cases h⟩

theorem over : Rows.lexNamesRow.holds Tryd.pinned (OpenSpec.ofChange Rows.lexNamesSpec) :=
  OpenClaim.holds_of_wide 3 Tryd.f3 rfl rfl rfl rfl rfl rfl rfl ⟨rfl, rfl, rfl, rfl, rfl⟩ rfl rfl rfl rfl rfl (by kernel_rfl) Tryd.func3 (by kernel_rfl)
    (of_decide_eq_true (by kernel_rfl)) (by unfold Func.isWrapper; first | (rw [if_pos (by decide +kernel)]; kernel_rfl) | (rw [if_neg (by decide +kernel)]; exact ⟨rfl, rfl⟩))
    (fun os started H enc _ => lifted os started H enc)

/-- ████ THE TIED CARD ████ -/
theorem proved : Rows.LexNamesCardSaid :=
  Claim7.holds_tied_plain_at .later [] [.widerDeep] true (true, "8612ac893cc689ba0174c6e6d384d75c5935e281db4bfb3598b331bdcb193a54") false
    over (fun _ h => by cases h) (by kernel_rfl) (fun _ h => by cases h) lexNames_row_tie rfl ⟨rfl, rfl⟩ (by kernel_rfl) rfl
    (fun f fn hf hfn => by
      obtain rfl : f = 3 := Option.some.inj ((show Tryd.prog.funcNamed "touchstone/touchstonelaw01.LexNames" = some 3 by kernel_rfl).symm.trans hf) |>.symm
      obtain rfl : fn = Tryd.f3 := (Option.some.inj (Tryd.func3.symm.trans hfn)).symm
      exact ⟨by kernel_rfl, fun j t ht => by
        rw [Tryd.params3] at ht
        simp at ht⟩)
    (by kernel_rfl)
end Go.Proofs.YtedkiipdgffoaaaDoor.lexNames
