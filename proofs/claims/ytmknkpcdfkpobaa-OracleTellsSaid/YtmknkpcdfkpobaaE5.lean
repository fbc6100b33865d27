/- awake: the first calls, whose answers are fixed. -/
import Derived.Test.YtmknkpcdfkpobaaE6
set_option linter.unusedVariables false
set_option linter.unusedSimpArgs false
namespace Go.Proofs.YtmknkpcdfkpobaaA
open Go.RowKit

theorem awakeF (H : AH) : ACalls Try.prog 9 [] H (fun v H' => v = .bool true ∧ H' = H) := by
  have d0 : decide (((0 : Nat) : Int) = 0) = true := by decide
  have d1 : decide ((1 : Int) = 1) = true := by decide
  have d2 : decide ((0 : Int) = 0) = true := by decide
  refine enter9 ?_
  unfold ac9
  refine go ?_
  refine XBsl.z rfl ?_
  refine go ?_
  refine XC.p (ACalls.nil [] _ (oLegalF [] [⟨0, 1, 5, 1, 0, 0⟩, ⟨0, 1, 5, 0, 0, 0⟩, ⟨0, 2, 5, 1, 0, 0⟩, ⟨0, 3, 5, 0, 0, 0⟩] _ (by decide) (by decide))) ?_
  have e1 : (legalP [] [⟨0, 1, 5, 1, 0, 0⟩, ⟨0, 1, 5, 0, 0, 0⟩, ⟨0, 2, 5, 1, 0, 0⟩, ⟨0, 3, 5, 0, 0, 0⟩]).1 = [] := by decide
  have e1' : (legalP [] [⟨0, 1, 5, 1, 0, 0⟩, ⟨0, 1, 5, 0, 0, 0⟩, ⟨0, 2, 5, 1, 0, 0⟩, ⟨0, 3, 5, 0, 0, 0⟩]).2 = true := by decide
  refine go2 e1 e1' ?_
  refine XBsl.z rfl ?_
  refine go ?_
  refine XBsl.z rfl ?_
  refine go ?_
  refine XC.p (oLegalF [5] [⟨0, 1, 7, 2, 0, 0⟩, ⟨0, 2, 5, -1, 0, 0⟩, ⟨0, 3, 5, 1, 0, 0⟩] _ (by decide) (by decide)) ?_
  have e2 : (legalP [5] [⟨0, 1, 7, 2, 0, 0⟩, ⟨0, 2, 5, -1, 0, 0⟩, ⟨0, 3, 5, 1, 0, 0⟩]).1 = [] := by decide
  have e2' : (legalP [5] [⟨0, 1, 7, 2, 0, 0⟩, ⟨0, 2, 5, -1, 0, 0⟩, ⟨0, 3, 5, 1, 0, 0⟩]).2 = false := by decide
  refine go2 e2 e2' ?_
  refine XBsl.z rfl ?_
  refine go ?_
  refine XC.p (oDoF [1, 9] 1 5 _ (by decide)) ?_
  have e3 : (doR [1, 9] 1 5).1 = [1, 5, 9] ∧ (doR [1, 9] 1 5).2.1 = 1 ∧ (doR [1, 9] 1 5).2.2 = 0 := by decide
  refine go1 e3 ?_
  refine XBsl.z rfl ?_
  refine go ?_
  refine XC.p (oDoF [9, 1] 1 5 _ (by decide)) ?_
  have e4 : (doR [9, 1] 1 5).1 = [9, 1] ∧ (doR [9, 1] 1 5).2.1 = 0 ∧ (doR [9, 1] 1 5).2.2 = 1 := by decide
  refine go2 e4 d0 ?_
  refine XBsl.z rfl ?_
  refine go ?_
  refine XC.p (intsF [1, 5, 9] [1, 5, 9] _ (by decide) (by decide)) ?_
  have e5 : decide ([(1 : Int), 5, 9] = [1, 5, 9]) = true := by decide
  refine go3 e5 d1 d2 ?_
  refine XC.p (oRightF [1, 5, 9] _ (by decide)) ?_
  have e6 : Right [1, 5, 9] = true := by decide
  refine go1 e6 ?_
  refine XBsl.z rfl ?_
  refine go ?_
  refine XC.p (oRightF [1, 1] _ (by decide)) ?_
  have e7 : Right [1, 1] = false := by decide
  exact fin1 e7

end Go.Proofs.YtmknkpcdfkpobaaA
