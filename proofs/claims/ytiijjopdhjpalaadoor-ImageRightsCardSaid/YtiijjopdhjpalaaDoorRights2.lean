/- Whatever program is handed to tidewaylaw10.ImageRights, it answers true, and the program reads as it did. Conditions: the package variable errors.errorType starts as the program's text lays it (the card ties it). -/
import Derived.Test.YtiijjopdhjpalaaDoorMj
import Derived.Test.YtiijjopdhjpalaaDoorMi
import Derived.Test.YtiijjopdhjpalaaDoorTie
import Derived.Test.YtiijjopdhjpalaaDoorCards
/-! Whatever program is handed to tidewaylaw10.ImageRights, it answers true, and the program reads as it did. Conditions: the package variable errors.errorType starts as the program's text lays it (the card ties it). -/
namespace Go.Proofs.YtiijjopdhjpalaaDoor
open Go Go.ChangeShapes Go.WideShapes Go.RowKit
set_option linter.unusedVariables false
theorem arg_prog {x : AV} (h : ArgOf Tryd.prog 25 x) : ∃ p : GP, x = p.av ∧ p.wf := by
  cases h with
  | mk h =>
    rw [Tryd.underlying25]
    exact prog_of (n := 2) h
theorem rights_trees : ∀ xs, ArgsOf Tryd.prog Tryd.f3.params.toList xs → ∃ m', callsN cfg 61 3 xs .empty = some (.ret (.bool true), m') := by
  intro xs h
  rw [Tryd.params3] at h
  cases h with
  | cons a b =>
    cases b
    obtain ⟨p, rfl, hp⟩ := arg_prog a
    exact law_ImageRights p hp
set_option maxRecDepth 100000 in
theorem rights_lifted (os : Os) (started : os.Started) (H : Type) (enc : TypeId × Value → H) :
    ReturnsInHanded {} Tryd.checked os 3 .any (fun w args => (Rows.imageRightsSpec.pre enc Tryd.prog Tryd.f3 [] false w args ∧ laidMetH Tryd.prog [("errors.errorType", Rows.laid_errors_errorType)] w) ∧ sizedMet enc Tryd.prog Tryd.f3 (OpenSpec.ofChange Rows.imageRightsSpec) false w args)
      (Rows.imageRightsSpec.post enc Tryd.prog Tryd.f3 false true false false) := by
  refine returnsInHanded_of_change_and (C := Tryd.checked) (X := fun w _ => laidMetH Tryd.prog [("errors.errorType", Rows.laid_errors_errorType)] w) (fun _ _ _ hh h => h.of_heap hh) fin_own started (by kernel_rfl) Tryd.func3
    (ChangeSpec.witness_at (enc := enc) (C := Tryd.checked) (os := os) (X := fun w _ => laidMetH Tryd.prog [("errors.errorType", Rows.laid_errors_errorType)] w) false (laidWorld os) #[.agg #[.slice none 0 0, .slice none 0 0]] 8 rfl (by kernel_rfl) (by kernel_rfl) (by kernel_rfl) (by kernel_rfl) (by kernel_rfl) (laidWorld_met os _)) ?_
  intro W base args ds gs before hval hW _ _ hL _
  exact law_lift (P := Tryd.prog) (tb := 4) (n := 61) Tryd.func3 (by kernel_rfl) (by kernel_rfl) (by kernel_rfl) Tryd.underlying4 all_ok rfl (by kernel_rfl) (by kernel_rfl) (by kernel_rfl)
    (fun H ds h => by
      rw [Tryd.params3] at h
      match ds, h with
      | [d], _ => exact ⟨rfl, rfl, rfl⟩) rights_trees hval hW (glob_of_laid hL)
theorem rights_holds : Rows.ImageRightsSaid :=
  OpenClaim.holds_of_wide 3 Tryd.f3 rfl rfl rfl rfl rfl rfl rfl ⟨rfl, rfl, rfl, rfl, rfl⟩ rfl rfl rfl rfl rfl (by kernel_rfl) Tryd.func3 (by kernel_rfl)
    (of_decide_eq_true (by kernel_rfl)) (by unfold Func.isWrapper; rw [if_neg (of_decide_eq_false (by kernel_rfl))]; exact ⟨rfl, rfl⟩)
    (fun os started H enc _ => rights_lifted os started H enc)
theorem rights_card : Rows.ImageRightsCardSaid :=
  Claim7.holds_tied_plain_at .later [] [.handle] true (true, "652a5eeae77635ab699cc65da7c4b1b63c97a95569c1474093e0914700766cdf") true
    rights_holds (fun _ h => by cases h) (by kernel_rfl) (fun _ h => by cases h) imageRights_row_tie rfl ⟨rfl, rfl⟩ (by kernel_rfl) rfl
    (fun f fn hf hfn => by
      obtain rfl : f = 3 := Option.some.inj ((show Tryd.prog.funcNamed "tideway/tidewaylaw10.ImageRights" = some 3 by kernel_rfl).symm.trans hf) |>.symm
      obtain rfl : fn = Tryd.f3 := (Option.some.inj (Tryd.func3.symm.trans hfn)).symm
      exact ⟨by kernel_rfl, fun j t ht => by
        rw [Tryd.params3] at ht
        have h3 : t = 25 := by
          rcases j with _ | j
          · simpa using ht.symm
          · simp at ht
        subst h3
        exact (show Tryd.prog.wantsStandIn 25 = false by kernel_rfl)⟩)
    (by kernel_rfl)
#print axioms rights_card
end Go.Proofs.YtiijjopdhjpalaaDoor
