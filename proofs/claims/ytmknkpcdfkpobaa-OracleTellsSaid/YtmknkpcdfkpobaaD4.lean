/- slices.Delete and slices.Insert, on one's own slice of ints. -/
import Derived.Test.YtmknkpcdfkpobaaD3
set_option linter.unusedVariables false
set_option linter.unusedSimpArgs false
namespace Go.Proofs.YtmknkpcdfkpobaaA
open Go.RowKit

/-- slices.Delete. -/
theorem delete_spec (xs : List Int) (i j : Nat) (a : Option Addr) (cap lo : Nat) (H : AH) (ho : Own H lo 1 (xs.map (Value.int .i64)) a xs.length cap) (hij : i < j) (hj : j ≤ xs.length) (hb : xs.length ≤ 1000000) :
    ACalls Try.prog 27 [.slice a xs.length cap, .int .i64 i, .int .i64 j] H
      (fun v H' => ∃ ys, v = .slice a ys.length cap ∧ ys = xs.take i ++ xs.drop j ∧ Own H' lo 1 (ys.map (Value.int .i64)) a ys.length cap ∧ Mod H H' a) := by
  refine enter27 ?_
  unfold ac27
  rcases ho with ⟨rfl, h1, rfl, _⟩ | ⟨b, spare, rfl, h1, h2, h3, h4, h5, h6, h7⟩
  · omega
  have hne : ¬ ((i : Int) = (j : Int)) := by omega
  -- the block's cells, in parts
  have hL : xs.map (Value.int .i64) ++ spare = ((xs.take i).map (Value.int .i64)) ++ (((xs.drop i).take (xs.length - j)).map (Value.int .i64)) ++ (((xs.drop (i + (xs.length - j))).map (Value.int .i64)) ++ spare) := by
    rw [← List.append_assoc, ← List.map_append, ← List.map_append]
    congr 2
    rw [← List.drop_drop, List.append_assoc, List.take_append_drop, List.take_append_drop]
  have hD : ((xs.map (Value.int .i64) ++ spare).drop j).take ((xs.length - j) * 1) = (xs.drop j).map (Value.int .i64) := by
    rw [List.drop_append_of_le_length (by simpa using hj), List.take_append_of_le_length (by simp), ← List.map_drop, List.take_of_length_le (by simp)]
  have hlen : (xs.map (Value.int .i64) ++ spare).length = cap := by
    rw [List.length_append, h5, Nat.mul_one, List.length_map]; omega
  first | refine go ?_ | exact fin
  refine XS.mk' (by omega) ?_
  first | refine go1 hne ?_ | exact fin1 hne
  refine XS.mk' (by omega) ?_
  first | refine go ?_ | exact fin
  refine XS.mk' (by omega) ?_
  first | refine go ?_ | exact fin
  have hs1 := splice_mid ((xs.take i).map (Value.int .i64)) (((xs.drop i).take (xs.length - j)).map (Value.int .i64)) (((xs.drop (i + (xs.length - j))).map (Value.int .i64)) ++ spare) ((xs.drop j).map (Value.int .i64)) (by simp; omega)
  have hil : ((xs.take i).map (Value.int .i64)).length = i := by simp; omega
  rw [← hL, hil] at hs1
  refine XApp.inplace (z := [.int .i64 0]) (m := xs.length - j) (new := (xs.drop j).map (Value.int .i64)) h3 rfl ?_ (by omega) (by rw [hlen]; simp; omega) (Eq.trans (congrArg (fun k => splice _ k _) (show 0 + i * [Value.int .i64 0].length = i by simp)) hs1) ?_
  · rw [acells_blk h3 (Nat.le_refl _) (by rw [hlen]; simp; omega)]; exact congrArg some hD
  first | refine go ?_ | exact fin
  refine XS.mk' (by omega) ?_
  first | refine go ?_ | exact fin
  have hs2 := splice_mid ((xs.take i).map (Value.int .i64) ++ (xs.drop j).map (Value.int .i64)) ((xs.drop (i + (xs.length - j))).map (Value.int .i64)) spare (zrow [.int .i64 0] (xs.length - (i + (xs.length - j)))) (by rw [zrow_length]; simp)
  have hil2 : ((xs.take i).map (Value.int .i64) ++ (xs.drop j).map (Value.int .i64)).length = i + (xs.length - j) := by simp; omega
  rw [hil2, List.append_assoc _ _ spare] at hs2
  refine XClear.blk (AH.blk_set _ _ _) (by rw [zrow_length]; simp; omega) hs2 ?_
  rw [AH.set_set]
  first | refine go ?_ | exact fin
  refine ⟨xs.take i ++ xs.drop j, by simp; omega, rfl, .inr ⟨b, zrow [.int .i64 0] (xs.length - (i + (xs.length - j))) ++ spare, rfl, h1, h2, ?_, by simp, ?_, by simp; omega, h7⟩, ⟨Nat.le_refl _, fun x hx hne => AH.blk_set_ne _ _ (fun e => hne (by rw [e]))⟩⟩
  · rw [AH.blk_set]; simp only [List.map_append, List.append_assoc]
  · rw [List.length_append, zrow_length, h5]; simp; omega

end Go.Proofs.YtmknkpcdfkpobaaA
