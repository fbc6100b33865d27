/- OracleTells: what the law computes, and that it answers true. -/
import Derived.Test.YtmknkpcdfkpobaaE5
import Derived.Test.YtmknkpcdfkpobaaF4
set_option linter.unusedVariables false
set_option linter.unusedSimpArgs false
namespace Go.Proofs.YtmknkpcdfkpobaaA
open Go.RowKit

theorem keysP_bound (raw : List Int) : (keysP raw).length ≤ 50 := Nat.le_trans (keysP_len raw) (by decide)

theorem opsP_len (raw : List T3) : (opsP raw).length ≤ 40 := by rw [opsP, opsAt_length]; omega

set_option maxHeartbeats 4000000 in
set_option maxRecDepth 20000 in
theorem tellsF (raw any : List Int) (kind key : Int) (more : List OpV) (ops : List T3) (H : AH) (hr : ∀ x ∈ raw, I64 x) (hb : raw.length ≤ 9223372036854775807) (ha : ∀ x ∈ any, I64 x) (hab : any.length ≤ 9223372036854775807)
    (hk : I64 kind) (hy : I64 key) (hm : ∀ x ∈ more, x.I64) (hmb : more.length ≤ 9223372036854775807) (hor : ∀ x ∈ ops, x.I64) (hob : ops.length ≤ 9223372036854775807) :
    ACalls Try.prog 3 [FI raw, FI any, .int .i64 kind, .int .i64 key, FO more, F3 ops] H (fun v H' => v = .bool true) := by
  refine enter3 ?_
  unfold ac3
  refine go ?_
  refine XC.p (awakeF H) ?_
  refine go ?_
  have hse : ∀ s : List Int, s.length ≤ 50 → s.length ≤ 9223372036854775807 ∧ s.length ≤ 1000000 ∧ s.length ≤ 1000 := fun s h => by omega
  have hkl := keysP_bound raw
  have r3 := pickP_range kind 3 (by decide)
  have hw3 := wrap_i64 (x := 1 + pickP kind 3) (by omega) (by omega)
  have main : ∀ x : List Int, x.length ≤ 50 → True := fun _ _ => trivial
  clear main
  refine XB.mk' (fun h => ?_) (fun h => ?_)
  · have h50 : 50 < any.length := by have := of_decide_eq_true h; omega
    refine go ?_
    refine XS.mk' (by omega) ?_
    have e1 : FS (((any.map (Value.int .i64)).drop (Int.toNat 0 * 1)).take ((Int.toNat 50 - Int.toNat 0) * 1)) (Int.toNat 50 - Int.toNat 0) = FI (any.take 50) := by
      show FS _ 50 = _
      rw [show Int.toNat 0 * 1 = 0 from rfl, List.drop_zero, show (Int.toNat 50 - Int.toNat 0) * 1 = 50 from rfl, ← List.map_take]
      have : (any.take 50).length = 50 := by simp; omega
      rw [FI, this]
    rw [e1]
    have hxl : (any.take 50).length ≤ 50 := by simp; omega
    generalize any.take 50 = x at hxl ⊢
    refine go ?_
    refine XC.p (keysF raw H hr hb) ?_
    generalize keysP raw = s0 at hkl ⊢
    refine go ?_
    refine @XBsl.z _ _ _ _ Tag.mk (show [FI s0, FI x].all noId = true from rfl) ?_
    refine go ?_
    refine XL.lp (β := Nat) (fun i j => [j 0, j 1, .int .i64 kind, .int .i64 key, FO more, F3 ops, j 6, j 7, j 8, j 9, j 10, j 11, j 12, .bool true, j 14, j 15, j 16, j 17, j 18, j 19, j 20, j 21, j 22, j 23, j 24, j 25, j 26, j 27, j 28, j 29, j 30, j 31, j 32, j 33, j 34, j 35, j 36, j 37, j 38, j 39, j 40, FS [FI s0, FI x] 2, .int .i64 2, .int .i64 i, j 44, j 45, j 46, j 47, j 48, j 49, j 50, j 51, j 52, j 53, j 54, j 55, j 56, j 57, j 58, j 59, j 60, j 61, j 62, j 63, j 64, j 65, j 66, j 67, j 68, j 69, j 70, j 71, j 72, j 73, j 74, j 75, j 76, j 77, j 78, j 79, j 80, j 81, j 82, j 83, j 84, j 85, j 86, j 87, j 88, j 89, j 90, j 91, j 92, j 93, j 94, j 95, j 96, j 97, j 98, j 99, j 100, j 101, j 102, j 103, j 104, j 105, j 106, j 107, j 108, j 109, j 110, j 111, j 112, j 113, j 114, j 115, j 116, j 117, j 118, j 119, j 120, j 121, j 122, j 123, j 124, j 125, j 126, j 127, j 128, j 129, j 130, j 131, j 132, j 133, j 134, j 135, j 136, j 137, j 138, j 139, j 140, j 141])
      (fun i H' => i ≤ 2) (fun i => 2 - i) 0 rfl (by decide) ?_
    intro i j H' hi
    refine go ?_
    refine XB.mk' (fun hlt => ?_) (fun hge => ?_)
    · have hi2 : i < 2 := by have := of_decide_eq_true hlt; omega
      have hw : IntKind.i64.wrap ((i : Int) + 1) = ((i + 1 : Nat) : Int) := by rw [wrap_i64 (by omega) (by omega)]; omega
      obtain ⟨s, hs, hsl⟩ : ∃ s : List Int, [FI s0, FI x][i]? = some (FI s) ∧ s.length ≤ 50 := by
        have : i = 0 ∨ i = 1 := by omega
        rcases this with rfl | rfl
        · exact ⟨s0, rfl, hkl⟩
        · exact ⟨x, rfl, hxl⟩
      obtain ⟨g1, g2, g3⟩ := hse s hsl
      refine go5 hlt hi2 hs @xelem_d @drop_get0 ?_
      refine XC.p (oRightF s H' g1) ?_
      refine go ?_
      refine XC.p (rRightF s H' g1) ?_
      refine go ?_
      refine XC.p (pick_spec kind 3 H' hk.1 hk.2 (by decide)) ?_
      refine go1 hw3 ?_
      refine XC.p (pick_spec key 20 H' hy.1 hy.2 (by decide)) ?_
      generalize pickP key 20 = k20
      generalize 1 + pickP kind 3 = k3
      refine go ?_
      refine @XBsl.z _ _ _ _ Tag.mk (show [Value.int .i64 kind, .int .i64 key, .int .i64 k3, .int .i64 k20].all noId = true from rfl) ?_
      refine go ?_
      refine XL.lp (β := Nat) (fun i2 j => [j 0, j 1, .int .i64 kind, .int .i64 key, FO more, F3 ops, j 6, j 7, j 8, j 9, j 10, j 11, j 12, .bool true, j 14, j 15, FI s, j 17, j 18, j 19, j 20, j 21, j 22, j 23, j 24, j 25, j 26, j 27, j 28, j 29, j 30, j 31, j 32, j 33, j 34, j 35, j 36, j 37, j 38, j 39, j 40, FS [FI s0, FI x] 2, .int .i64 2, .int .i64 i, j 44, j 45, j 46, j 47, j 48, j 49, j 50, j 51, j 52, j 53, j 54, j 55, j 56, j 57, j 58, j 59, j 60, FS [Value.int .i64 kind, .int .i64 key, .int .i64 k3, .int .i64 k20] 2, .int .i64 2, .int .i64 i2, j 64, j 65, j 66, j 67, j 68, j 69, j 70, j 71, j 72, j 73, j 74, j 75, j 76, j 77, j 78, j 79, j 80, j 81, j 82, j 83, j 84, j 85, j 86, j 87, j 88, j 89, j 90, j 91, j 92, j 93, j 94, j 95, j 96, j 97, j 98, j 99, j 100, j 101, j 102, j 103, j 104, j 105, j 106, j 107, j 108, j 109, j 110, j 111, j 112, j 113, j 114, j 115, j 116, j 117, j 118, j 119, j 120, j 121, j 122, j 123, j 124, j 125, j 126, j 127, j 128, j 129, j 130, j 131, j 132, j 133, j 134, j 135, j 136, j 137, j 138, j 139, j 140, j 141])
        (fun i2 H' => i2 ≤ 2) (fun i2 => 2 - i2) 0 rfl (by decide) ?_
      clear hi
      intro i2 j H' hi
      refine go ?_
      refine XB.mk' (fun hlt3 => ?_) (fun hge3 => ?_)
      · have hi3 : i2 < 2 := by have := of_decide_eq_true hlt3; omega
        have hw4 : IntKind.i64.wrap ((i2 : Int) + 1) = ((i2 + 1 : Nat) : Int) := by rw [wrap_i64 (by omega) (by omega)]; omega
        obtain ⟨p, q, hp⟩ : ∃ p q : Int, (if 2 ≤ (List.drop (i2 * 2) [Value.int .i64 kind, .int .i64 key, .int .i64 k3, .int .i64 k20]).length then some (Value.agg (List.take 2 (List.drop (i2 * 2) [Value.int .i64 kind, .int .i64 key, .int .i64 k3, .int .i64 k20])).toArray) else none) = some (.agg [.int .i64 p, .int .i64 q].toArray) := by
          have : i2 = 0 ∨ i2 = 1 := by omega
          rcases this with rfl | rfl
          · exact ⟨kind, key, rfl⟩
          · exact ⟨k3, k20, rfl⟩
        refine go4 hlt3 hi3 @xelem_d hp ?_
        refine xstore.mk' (AH.blk_alloc _ _) rfl rfl (by decide) ?_
        have hsp : splice [Value.int .i64 0, .int .i64 0] 0 (cellsL (.agg [.int .i64 p, .int .i64 q].toArray)) = [.int .i64 p, .int .i64 q] := rfl
        rw [hsp]
        generalize hnx : H'.next = nx
        have q0 : rload1 ((H'.alloc (.cells [.int .i64 0, .int .i64 0] true)).set nx (.cells [.int .i64 p, .int .i64 q] true)) nx 0 = some (.int .i64 p) := by unfold rload1; rw [AH.blk_set]; rfl
        have q1 : rload1 ((H'.alloc (.cells [.int .i64 0, .int .i64 0] true)).set nx (.cells [.int .i64 p, .int .i64 q] true)) nx 1 = some (.int .i64 q) := by unfold rload1; rw [AH.blk_set]; rfl
        generalize (H'.alloc (.cells [.int .i64 0, .int .i64 0] true)).set nx (.cells [.int .i64 p, .int .i64 q] true) = H2 at q0 q1 ⊢
        have de : ∀ a : Int, decide (a = a) = true := fun a => decide_eq_true rfl
        have dl : ∀ a : List Int, decide (a = a) = true := fun a => decide_eq_true rfl
        refine go2 q0 q1 ?_
        refine XC.p (oDoF s p q H2 g2) ?_
        refine go2 q0 q1 ?_
        refine XC.p (rDoF s p q H2 g2) ?_
        refine go ?_
        have hdl := doR_len s p q
        refine XC.p (intsF _ _ H2 (by omega) (by omega)) ?_
        refine go3 de dl hw4 ?_
        exact ⟨i2 + 1, rfl, by omega, by omega⟩
      · refine go1 hge3 ?_
        refine XS.mk' (by omega) ?_
        obtain ⟨m, hm, hmm⟩ : ∃ m : Nat, min (more.length : Int) 20 = m ∧ m ≤ 20 ∧ m ≤ more.length := ⟨(min (more.length : Int) 20).toNat, by omega, by omega, by omega⟩
        have e2 : FS (((more.flatMap opCells).drop (Int.toNat 0 * 6)).take (((min (more.length : Int) 20).toNat - Int.toNat 0) * 6)) ((min (more.length : Int) 20).toNat - Int.toNat 0) = FO (more.take m) := by
          rw [hm, Int.toNat_natCast]
          show FS (((more.flatMap opCells).drop 0).take (m * 6)) m = _
          rw [List.drop_zero, flat_take]
          have : (more.take m).length = m := by simp; omega
          rw [FO, this]
        rw [e2]
        have hml : (more.take m).length ≤ 1000 := by simp; omega
        generalize more.take m = mo at hml ⊢
        refine go ?_
        refine XC.p (opsF ops _ hor hob) ?_
        have hol := opsP_len ops
        refine go ?_
        refine XC.p (toldF s ops _ hor hob g3) ?_
        have htl := toldP_len ops s
        generalize toldP ops s = tl at htl ⊢
        generalize opsP ops = ol at hol ⊢
        refine go ?_
        refine @XBsl.z _ _ _ _ Tag.mk (show [FO mo, FO ol, FO tl].all noId = true from rfl) ?_
        refine go ?_
        clear hi
        refine XL.lp (β := Nat) (fun i3 j => [j 0, j 1, .int .i64 kind, .int .i64 key, FO more, F3 ops, j 6, j 7, j 8, j 9, j 10, j 11, j 12, .bool true, j 14, j 15, FI s, j 17, j 18, j 19, j 20, j 21, j 22, j 23, j 24, j 25, j 26, j 27, j 28, j 29, j 30, j 31, j 32, j 33, j 34, j 35, j 36, j 37, j 38, j 39, j 40, FS [FI s0, FI x] 2, .int .i64 2, .int .i64 i, j 44, j 45, j 46, j 47, j 48, j 49, j 50, j 51, j 52, j 53, j 54, j 55, j 56, j 57, j 58, j 59, j 60, j 61, j 62, j 63, j 64, j 65, j 66, j 67, j 68, j 69, j 70, j 71, j 72, j 73, j 74, j 75, j 76, j 77, j 78, j 79, j 80, j 81, j 82, j 83, j 84, j 85, j 86, j 87, j 88, j 89, j 90, j 91, j 92, j 93, j 94, j 95, j 96, j 97, j 98, j 99, j 100, j 101, j 102, j 103, j 104, j 105, j 106, j 107, j 108, j 109, j 110, j 111, FS [FO mo, FO ol, FO tl] 3, .int .i64 3, .int .i64 i3, j 115, j 116, j 117, j 118, j 119, j 120, j 121, j 122, j 123, j 124, j 125, j 126, j 127, j 128, j 129, j 130, j 131, j 132, j 133, j 134, j 135, j 136, j 137, j 138, j 139, j 140, j 141])
          (fun i3 H' => i3 ≤ 3) (fun i3 => 3 - i3) 0 rfl (by decide) ?_
        intro i3 j3 H4 hi
        refine go ?_
        refine XB.mk' (fun hlt4 => ?_) (fun hge4 => ?_)
        · have hi4 : i3 < 3 := by have := of_decide_eq_true hlt4; omega
          have hw5 : IntKind.i64.wrap ((i3 : Int) + 1) = ((i3 + 1 : Nat) : Int) := by rw [wrap_i64 (by omega) (by omega)]; omega
          obtain ⟨l, hl, hll⟩ : ∃ l : List OpV, [FO mo, FO ol, FO tl][i3]? = some (FO l) ∧ l.length ≤ 1000 := by
            have : i3 = 0 ∨ i3 = 1 ∨ i3 = 2 := by omega
            rcases this with rfl | rfl | rfl
            · exact ⟨mo, rfl, hml⟩
            · exact ⟨ol, rfl, by omega⟩
            · exact ⟨tl, rfl, by omega⟩
          have dl : ∀ a : List Int, decide (a = a) = true := fun a => decide_eq_true rfl
          refine go5 hlt4 hi4 hl @xelem_d @drop_get0 ?_
          refine XC.p (oLegalF s l _ g3 hll) ?_
          refine go ?_
          refine XC.p (rLegalF s l _ g3 hll) ?_
          refine go ?_
          have hdl := legalP_len l s
          refine XC.p (intsF _ _ _ (by omega) (by omega)) ?_
          refine go2 dl hw5 ?_
          exact ⟨i3 + 1, rfl, by omega, by omega⟩
        · refine go2 hge4 hw ?_
          exact ⟨i + 1, rfl, by omega, by omega⟩
    · exact fin1 hge
  · have hxl : any.length ≤ 50 := by have := of_decide_eq_false h; omega
    generalize any = x at hxl ⊢
    refine go ?_
    refine XC.p (keysF raw H hr hb) ?_
    generalize keysP raw = s0 at hkl ⊢
    refine go ?_
    refine @XBsl.z _ _ _ _ Tag.mk (show [FI s0, FI x].all noId = true from rfl) ?_
    refine go ?_
    refine XL.lp (β := Nat) (fun i j => [j 0, j 1, .int .i64 kind, .int .i64 key, FO more, F3 ops, j 6, j 7, j 8, j 9, j 10, j 11, j 12, .bool true, j 14, j 15, j 16, j 17, j 18, j 19, j 20, j 21, j 22, j 23, j 24, j 25, j 26, j 27, j 28, j 29, j 30, j 31, j 32, j 33, j 34, j 35, j 36, j 37, j 38, j 39, j 40, FS [FI s0, FI x] 2, .int .i64 2, .int .i64 i, j 44, j 45, j 46, j 47, j 48, j 49, j 50, j 51, j 52, j 53, j 54, j 55, j 56, j 57, j 58, j 59, j 60, j 61, j 62, j 63, j 64, j 65, j 66, j 67, j 68, j 69, j 70, j 71, j 72, j 73, j 74, j 75, j 76, j 77, j 78, j 79, j 80, j 81, j 82, j 83, j 84, j 85, j 86, j 87, j 88, j 89, j 90, j 91, j 92, j 93, j 94, j 95, j 96, j 97, j 98, j 99, j 100, j 101, j 102, j 103, j 104, j 105, j 106, j 107, j 108, j 109, j 110, j 111, j 112, j 113, j 114, j 115, j 116, j 117, j 118, j 119, j 120, j 121, j 122, j 123, j 124, j 125, j 126, j 127, j 128, j 129, j 130, j 131, j 132, j 133, j 134, j 135, j 136, j 137, j 138, j 139, j 140, j 141])
      (fun i H' => i ≤ 2) (fun i => 2 - i) 0 rfl (by decide) ?_
    intro i j H' hi
    refine go ?_
    refine XB.mk' (fun hlt => ?_) (fun hge => ?_)
    · have hi2 : i < 2 := by have := of_decide_eq_true hlt; omega
      have hw : IntKind.i64.wrap ((i : Int) + 1) = ((i + 1 : Nat) : Int) := by rw [wrap_i64 (by omega) (by omega)]; omega
      obtain ⟨s, hs, hsl⟩ : ∃ s : List Int, [FI s0, FI x][i]? = some (FI s) ∧ s.length ≤ 50 := by
        have : i = 0 ∨ i = 1 := by omega
        rcases this with rfl | rfl
        · exact ⟨s0, rfl, hkl⟩
        · exact ⟨x, rfl, hxl⟩
      obtain ⟨g1, g2, g3⟩ := hse s hsl
      refine go5 hlt hi2 hs @xelem_d @drop_get0 ?_
      refine XC.p (oRightF s H' g1) ?_
      refine go ?_
      refine XC.p (rRightF s H' g1) ?_
      refine go ?_
      refine XC.p (pick_spec kind 3 H' hk.1 hk.2 (by decide)) ?_
      refine go1 hw3 ?_
      refine XC.p (pick_spec key 20 H' hy.1 hy.2 (by decide)) ?_
      generalize pickP key 20 = k20
      generalize 1 + pickP kind 3 = k3
      refine go ?_
      refine @XBsl.z _ _ _ _ Tag.mk (show [Value.int .i64 kind, .int .i64 key, .int .i64 k3, .int .i64 k20].all noId = true from rfl) ?_
      refine go ?_
      refine XL.lp (β := Nat) (fun i2 j => [j 0, j 1, .int .i64 kind, .int .i64 key, FO more, F3 ops, j 6, j 7, j 8, j 9, j 10, j 11, j 12, .bool true, j 14, j 15, FI s, j 17, j 18, j 19, j 20, j 21, j 22, j 23, j 24, j 25, j 26, j 27, j 28, j 29, j 30, j 31, j 32, j 33, j 34, j 35, j 36, j 37, j 38, j 39, j 40, FS [FI s0, FI x] 2, .int .i64 2, .int .i64 i, j 44, j 45, j 46, j 47, j 48, j 49, j 50, j 51, j 52, j 53, j 54, j 55, j 56, j 57, j 58, j 59, j 60, FS [Value.int .i64 kind, .int .i64 key, .int .i64 k3, .int .i64 k20] 2, .int .i64 2, .int .i64 i2, j 64, j 65, j 66, j 67, j 68, j 69, j 70, j 71, j 72, j 73, j 74, j 75, j 76, j 77, j 78, j 79, j 80, j 81, j 82, j 83, j 84, j 85, j 86, j 87, j 88, j 89, j 90, j 91, j 92, j 93, j 94, j 95, j 96, j 97, j 98, j 99, j 100, j 101, j 102, j 103, j 104, j 105, j 106, j 107, j 108, j 109, j 110, j 111, j 112, j 113, j 114, j 115, j 116, j 117, j 118, j 119, j 120, j 121, j 122, j 123, j 124, j 125, j 126, j 127, j 128, j 129, j 130, j 131, j 132, j 133, j 134, j 135, j 136, j 137, j 138, j 139, j 140, j 141])
        (fun i2 H' => i2 ≤ 2) (fun i2 => 2 - i2) 0 rfl (by decide) ?_
      clear hi
      intro i2 j H' hi
      refine go ?_
      refine XB.mk' (fun hlt3 => ?_) (fun hge3 => ?_)
      · have hi3 : i2 < 2 := by have := of_decide_eq_true hlt3; omega
        have hw4 : IntKind.i64.wrap ((i2 : Int) + 1) = ((i2 + 1 : Nat) : Int) := by rw [wrap_i64 (by omega) (by omega)]; omega
        obtain ⟨p, q, hp⟩ : ∃ p q : Int, (if 2 ≤ (List.drop (i2 * 2) [Value.int .i64 kind, .int .i64 key, .int .i64 k3, .int .i64 k20]).length then some (Value.agg (List.take 2 (List.drop (i2 * 2) [Value.int .i64 kind, .int .i64 key, .int .i64 k3, .int .i64 k20])).toArray) else none) = some (.agg [.int .i64 p, .int .i64 q].toArray) := by
          have : i2 = 0 ∨ i2 = 1 := by omega
          rcases this with rfl | rfl
          · exact ⟨kind, key, rfl⟩
          · exact ⟨k3, k20, rfl⟩
        refine go4 hlt3 hi3 @xelem_d hp ?_
        refine xstore.mk' (AH.blk_alloc _ _) rfl rfl (by decide) ?_
        have hsp : splice [Value.int .i64 0, .int .i64 0] 0 (cellsL (.agg [.int .i64 p, .int .i64 q].toArray)) = [.int .i64 p, .int .i64 q] := rfl
        rw [hsp]
        generalize hnx : H'.next = nx
        have q0 : rload1 ((H'.alloc (.cells [.int .i64 0, .int .i64 0] true)).set nx (.cells [.int .i64 p, .int .i64 q] true)) nx 0 = some (.int .i64 p) := by unfold rload1; rw [AH.blk_set]; rfl
        have q1 : rload1 ((H'.alloc (.cells [.int .i64 0, .int .i64 0] true)).set nx (.cells [.int .i64 p, .int .i64 q] true)) nx 1 = some (.int .i64 q) := by unfold rload1; rw [AH.blk_set]; rfl
        generalize (H'.alloc (.cells [.int .i64 0, .int .i64 0] true)).set nx (.cells [.int .i64 p, .int .i64 q] true) = H2 at q0 q1 ⊢
        have de : ∀ a : Int, decide (a = a) = true := fun a => decide_eq_true rfl
        have dl : ∀ a : List Int, decide (a = a) = true := fun a => decide_eq_true rfl
        refine go2 q0 q1 ?_
        refine XC.p (oDoF s p q H2 g2) ?_
        refine go2 q0 q1 ?_
        refine XC.p (rDoF s p q H2 g2) ?_
        refine go ?_
        have hdl := doR_len s p q
        refine XC.p (intsF _ _ H2 (by omega) (by omega)) ?_
        refine go3 de dl hw4 ?_
        exact ⟨i2 + 1, rfl, by omega, by omega⟩
      · refine go1 hge3 ?_
        refine XS.mk' (by omega) ?_
        obtain ⟨m, hm, hmm⟩ : ∃ m : Nat, min (more.length : Int) 20 = m ∧ m ≤ 20 ∧ m ≤ more.length := ⟨(min (more.length : Int) 20).toNat, by omega, by omega, by omega⟩
        have e2 : FS (((more.flatMap opCells).drop (Int.toNat 0 * 6)).take (((min (more.length : Int) 20).toNat - Int.toNat 0) * 6)) ((min (more.length : Int) 20).toNat - Int.toNat 0) = FO (more.take m) := by
          rw [hm, Int.toNat_natCast]
          show FS (((more.flatMap opCells).drop 0).take (m * 6)) m = _
          rw [List.drop_zero, flat_take]
          have : (more.take m).length = m := by simp; omega
          rw [FO, this]
        rw [e2]
        have hml : (more.take m).length ≤ 1000 := by simp; omega
        generalize more.take m = mo at hml ⊢
        refine go ?_
        refine XC.p (opsF ops _ hor hob) ?_
        have hol := opsP_len ops
        refine go ?_
        refine XC.p (toldF s ops _ hor hob g3) ?_
        have htl := toldP_len ops s
        generalize toldP ops s = tl at htl ⊢
        generalize opsP ops = ol at hol ⊢
        refine go ?_
        refine @XBsl.z _ _ _ _ Tag.mk (show [FO mo, FO ol, FO tl].all noId = true from rfl) ?_
        refine go ?_
        clear hi
        refine XL.lp (β := Nat) (fun i3 j => [j 0, j 1, .int .i64 kind, .int .i64 key, FO more, F3 ops, j 6, j 7, j 8, j 9, j 10, j 11, j 12, .bool true, j 14, j 15, FI s, j 17, j 18, j 19, j 20, j 21, j 22, j 23, j 24, j 25, j 26, j 27, j 28, j 29, j 30, j 31, j 32, j 33, j 34, j 35, j 36, j 37, j 38, j 39, j 40, FS [FI s0, FI x] 2, .int .i64 2, .int .i64 i, j 44, j 45, j 46, j 47, j 48, j 49, j 50, j 51, j 52, j 53, j 54, j 55, j 56, j 57, j 58, j 59, j 60, j 61, j 62, j 63, j 64, j 65, j 66, j 67, j 68, j 69, j 70, j 71, j 72, j 73, j 74, j 75, j 76, j 77, j 78, j 79, j 80, j 81, j 82, j 83, j 84, j 85, j 86, j 87, j 88, j 89, j 90, j 91, j 92, j 93, j 94, j 95, j 96, j 97, j 98, j 99, j 100, j 101, j 102, j 103, j 104, j 105, j 106, j 107, j 108, j 109, j 110, j 111, FS [FO mo, FO ol, FO tl] 3, .int .i64 3, .int .i64 i3, j 115, j 116, j 117, j 118, j 119, j 120, j 121, j 122, j 123, j 124, j 125, j 126, j 127, j 128, j 129, j 130, j 131, j 132, j 133, j 134, j 135, j 136, j 137, j 138, j 139, j 140, j 141])
          (fun i3 H' => i3 ≤ 3) (fun i3 => 3 - i3) 0 rfl (by decide) ?_
        intro i3 j3 H4 hi
        refine go ?_
        refine XB.mk' (fun hlt4 => ?_) (fun hge4 => ?_)
        · have hi4 : i3 < 3 := by have := of_decide_eq_true hlt4; omega
          have hw5 : IntKind.i64.wrap ((i3 : Int) + 1) = ((i3 + 1 : Nat) : Int) := by rw [wrap_i64 (by omega) (by omega)]; omega
          obtain ⟨l, hl, hll⟩ : ∃ l : List OpV, [FO mo, FO ol, FO tl][i3]? = some (FO l) ∧ l.length ≤ 1000 := by
            have : i3 = 0 ∨ i3 = 1 ∨ i3 = 2 := by omega
            rcases this with rfl | rfl | rfl
            · exact ⟨mo, rfl, hml⟩
            · exact ⟨ol, rfl, by omega⟩
            · exact ⟨tl, rfl, by omega⟩
          have dl : ∀ a : List Int, decide (a = a) = true := fun a => decide_eq_true rfl
          refine go5 hlt4 hi4 hl @xelem_d @drop_get0 ?_
          refine XC.p (oLegalF s l _ g3 hll) ?_
          refine go ?_
          refine XC.p (rLegalF s l _ g3 hll) ?_
          refine go ?_
          have hdl := legalP_len l s
          refine XC.p (intsF _ _ _ (by omega) (by omega)) ?_
          refine go2 dl hw5 ?_
          exact ⟨i3 + 1, rfl, by omega, by omega⟩
        · refine go2 hge4 hw ?_
          exact ⟨i + 1, rfl, by omega, by omega⟩
    · exact fin1 hge

end Go.Proofs.YtmknkpcdfkpobaaA
