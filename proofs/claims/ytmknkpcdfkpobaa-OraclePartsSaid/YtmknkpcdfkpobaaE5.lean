/- awake: the first calls, whose answers are fixed. -/
import Derived.Test.YtmknkpcdfkpobaaE4
set_option linter.unusedVariables false
set_option linter.unusedSimpArgs false
namespace Go.Proofs.YtmknkpcdfkpobaaA
open Go.RowKit

theorem Sl.lit (H : AH) (sz n : Nat) (cs : List Value) (hl : cs.length = n * sz) : Sl (H.alloc (.cells cs true)) sz cs (some ⟨H.next, 0, some 0⟩) n n :=
  ⟨hl, Nat.le_refl _, fun h => (by cases h), fun _ => ⟨H.next, 0, 0, rfl, Nat.lt_succ_self _, cs, true, AH.blk_alloc _ _, by simp, by simp⟩⟩

theorem Right_mk {xs : List Int} (b : Bool) (h : Right xs = b) : Right xs = b := h

theorem awake_spec (H : AH) : ACalls Try.prog 9 [] H (fun v H' => v = .bool true ∧ Ext H H') := by
  refine enter9 ?_
  unfold ac9
  first | refine go ?_ | exact fin
  refine XC.mk' (oLegal_spec [] [⟨0, 1, 5, 1, 0, 0⟩, ⟨0, 1, 5, 0, 0, 0⟩, ⟨0, 2, 5, 1, 0, 0⟩, ⟨0, 3, 5, 0, 0, 0⟩] none _ 0 4 _ (Sl.nil' _ 1) (Sl.lit H 6 4 _ rfl) (by decide) (by decide)) ?_
  rintro v H1 ⟨a1, c1, hv, ho1, hE1⟩
  have e1 : legalP [] [⟨0, 1, 5, 1, 0, 0⟩, ⟨0, 1, 5, 0, 0, 0⟩, ⟨0, 2, 5, 1, 0, 0⟩, ⟨0, 3, 5, 0, 0, 0⟩] = ([], true) := by decide
  rw [e1] at hv ho1
  subst hv
  have hE1' := (Ext.alloc H _).trans hE1
  first | refine go ?_ | exact fin
  refine XC.mk' (oLegal_spec [5] [⟨0, 1, 7, 2, 0, 0⟩, ⟨0, 2, 5, -1, 0, 0⟩, ⟨0, 3, 5, 1, 0, 0⟩] _ _ 1 3 _ ((Sl.lit H1 1 1 [.int .i64 5] rfl).ext (Ext.alloc _ _)) (Sl.lit (H1.alloc _) 6 3 _ rfl) (by decide) (by decide)) ?_
  rintro v H2 ⟨a2, c2, hv, ho2, hE2⟩
  have e2 : legalP [5] [⟨0, 1, 7, 2, 0, 0⟩, ⟨0, 2, 5, -1, 0, 0⟩, ⟨0, 3, 5, 1, 0, 0⟩] = ([], false) := by decide
  rw [e2] at hv ho2
  subst hv
  have hE2' := hE1'.trans (((Ext.alloc H1 _).trans (Ext.alloc _ _)).trans hE2)
  first | refine go ?_ | exact fin
  refine XC.mk' (oDo_spec [1, 9] 1 5 _ 2 _ (Sl.lit H2 1 2 [.int .i64 1, .int .i64 9] rfl) (by decide)) ?_
  rintro v H3 ⟨a3, c3, hv, ho3, hE3⟩
  have e3 : doR [1, 9] 1 5 = ([1, 5, 9], 1, 0) := by decide
  rw [e3] at hv ho3
  subst hv
  have hE3' := hE2'.trans ((Ext.alloc H2 _).trans hE3)
  first | refine go ?_ | exact fin
  refine XC.mk' (oDo_spec [9, 1] 1 5 _ 2 _ (Sl.lit H3 1 2 [.int .i64 9, .int .i64 1] rfl) (by decide)) ?_
  rintro v H4 ⟨a4, c4, hv, ho4, hE4⟩
  have e4 : doR [9, 1] 1 5 = ([9, 1], 0, 1) := by decide
  rw [e4] at hv ho4
  subst hv
  have hE34 := (Ext.alloc H3 _).trans hE4
  have hE4' := hE3'.trans hE34
  have ho34 := ho3.ext hE34
  have d0 : decide (((0 : Nat) : Int) = 0) = true := by decide
  have d1 : decide ((1 : Int) = 1) = true := by decide
  have d2 : decide ((0 : Int) = 0) = true := by decide
  first | refine go1 d0 ?_ | exact fin1 d0
  refine XC.mk' (ints_spec [1, 5, 9] [1, 5, 9] a3 _ c3 3 _ (ho34.sl.ext (Ext.alloc H4 _)) (Sl.lit H4 1 3 [.int .i64 1, .int .i64 5, .int .i64 9] rfl) (by decide) (by decide)) ?_
  rintro v H5 ⟨hv, rfl⟩
  have e5 : decide ([(1 : Int), 5, 9] = [1, 5, 9]) = true := by decide
  rw [e5] at hv
  subst hv
  first | refine go2 d1 d2 ?_ | exact fin2 d1 d2
  refine XC.mk' (oRight_spec [1, 5, 9] a3 c3 _ (ho34.sl.ext (Ext.alloc H4 _)) (by decide)) ?_
  rintro v H6 ⟨hv, rfl⟩
  have e6 : Right [1, 5, 9] = true := by decide
  rw [e6] at hv
  subst hv
  first | refine go ?_ | exact fin
  refine XC.mk' (oRight_spec [1, 1] _ 2 _ (Sl.lit (H4.alloc _) 1 2 [.int .i64 1, .int .i64 1] rfl) (by decide)) ?_
  rintro v H7 ⟨hv, rfl⟩
  have e7 : Right [1, 1] = false := by decide
  rw [e7] at hv
  subst hv
  first | refine go ?_ | exact fin
  exact hE4'.trans ((Ext.alloc H4 _).trans (Ext.alloc _ _))

end Go.Proofs.YtmknkpcdfkpobaaA
