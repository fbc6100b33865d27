/- slices.Insert of one int, on one's own slice of ints. -/
import Derived.Test.YtmknkpcdfkpobaaD4
set_option linter.unusedVariables false
set_option linter.unusedSimpArgs false
namespace Go.Proofs.YtmknkpcdfkpobaaA
open Go.RowKit

theorem overlaps_spec {H : AH} {b1 b2 o1 o2 la ca lb cb : Nat} {c1 c2 : List Value} (h1 : H.blk b1 = some (.cells c1 true)) (h2 : H.blk b2 = some (.cells c2 true)) (hne : b1 ≠ b2) (hc2 : c2.length ≠ 0) (hla : la ≠ 0) (hlb : lb ≠ 0) :
    AExt Try.prog 32 [.slice (some ⟨b1, o1, some 0⟩) la ca, .slice (some ⟨b2, o2, some 0⟩) lb cb] H (fun v H' => v = .bool false ∧ H' = H) := by
  exact aext_overlaps (fn := Try.f32) (tS := 22) (tR := 4) (e := 3) (sz := 1) Try.func32 (by kernel_rfl) (by kernel_rfl) (by kernel_rfl) (by kernel_rfl) (by kernel_rfl) (by kernel_rfl) h1 h2 hne hc2 hla hlb

/-- slices.Insert. -/
theorem insert_spec (xs : List Int) (i : Nat) (k : Int) (a : Option Addr) (cap lo bv : Nat) (H : AH) (ho : Own H lo 1 (xs.map (.int .i64)) a xs.length cap) (hv : H.blk bv = some (.cells [.int .i64 k] true)) (hva : a ≠ some ⟨bv, 0, some 0⟩) (hbv : bv < H.next) (hlo : lo ≤ H.next)
    (hi : i ≤ xs.length) (hb : xs.length ≤ 1000000) :
    ACalls Try.prog 26 [.slice a xs.length cap, .int .i64 i, .slice (some ⟨bv, 0, some 0⟩) 1 1] H
      (fun v H' => ∃ a' cap' ys, v = .slice a' ys.length cap' ∧ ys = xs.take i ++ k :: xs.drop i ∧ Own H' lo 1 (ys.map (.int .i64)) a' ys.length cap' ∧ Mod H H' a) := by
  refine enter26 ?_
  unfold ac26
  have hvc : acells H 1 1 (.slice (some ⟨bv, 0, some 0⟩) 1 1) = some [.int .i64 k] := by
    rw [acells_blk hv (Nat.le_refl _) (by simp)]; rfl
  have atEnd : ∀ {K : Value → AH → Prop} {t : Tag K}, i = xs.length → (∀ a' cap' H', (∃ ys, ys = xs.take i ++ k :: xs.drop i ∧ ys.length = xs.length + 1 ∧ Own H' lo 1 (ys.map (.int .i64)) a' ys.length cap' ∧ Mod H H' a) → K (.slice a' (xs.length + 1) cap') H') → XApp [.int .i64 0] 8 (.slice a xs.length cap) (.slice (some ⟨bv, 0, some 0⟩) 1 1) H K t := by
    intro K t hi hK
    refine XApp.own (z := [.int .i64 0]) ho (m := 1) rfl hvc (by omega) hlo fun a' cap' H' ho' hm => hK a' cap' H' ⟨xs ++ [k], by rw [hi, List.take_length, List.drop_length], by simp, ?_, hm⟩
    simpa using ho'
  rcases ho with ⟨rfl, h1, rfl, hx⟩ | ⟨b, spare, rfl, h1, h2, h3, h4, h5, h6, h7⟩
  · have hx : xs = [] := List.length_eq_zero_iff.1 h1
    subst hx
    have hi0 : i = 0 := by simpa using hi
    subst hi0
    first | refine go ?_ | exact fin
    refine XS.mk' rfl ?_
    first | refine go ?_ | exact fin
    refine XB.mk' (fun h => absurd h (by decide)) (fun _ => ?_)
    first | refine go ?_ | exact fin
    refine atEnd rfl fun a' cap' H' hq => ?_
    obtain ⟨ys, hy1, hy2, hy3, hy4⟩ := hq
    first | refine go ?_ | exact fin
    exact ⟨a', cap', ys, by rw [hy2]; rfl, hy1, hy3, hy4⟩
  have hlen : (xs.map (Value.int .i64) ++ spare).length = cap := by
    rw [List.length_append, h5, Nat.mul_one, List.length_map]; omega
  first | refine go ?_ | exact fin
  refine XS.mk' ⟨by omega, by omega, by omega, by omega⟩ ?_
  first | refine go ?_ | exact fin
  refine XB.mk' (fun h => absurd h (by decide)) (fun _ => ?_)
  first | refine go ?_ | exact fin
  by_cases hin : i = xs.length
  · have hd : decide ((i : Int) = xs.length) = true := decide_eq_true (by omega)
    first | refine go1 hd ?_ | exact fin1 hd
    refine atEnd hin fun a' cap' H' hq => ?_
    obtain ⟨ys, hy1, hy2, hy3, hy4⟩ := hq
    first | refine go ?_ | exact fin
    exact ⟨a', cap', ys, by rw [hy2], hy1, hy3, hy4⟩
  have hd : decide ((i : Int) = xs.length) = false := decide_eq_false (by omega)
  have hw : IntKind.i64.wrap ((xs.length : Int) + (1 : Nat)) = ((xs.length + 1 : Nat) : Int) := by rw [wrap_i64 (by omega) (by omega)]; omega
  have hw2 : IntKind.i64.wrap (((xs.length + 1 : Nat) : Int) - i) = ((xs.length + 1 - i : Nat) : Int) := by rw [wrap_i64 (by omega) (by omega)]; omega
  have hw3 : IntKind.i64.wrap ((i : Int) + (1 : Nat)) = ((i + 1 : Nat) : Int) := by rw [wrap_i64 (by omega) (by omega)]; omega
  have hA : ((xs.map (Value.int .i64) ++ spare).drop 0).take (i * 1) = (xs.take i).map (Value.int .i64) := by
    rw [List.drop_zero, Nat.mul_one, List.take_append_of_le_length (by simpa using hi), ← List.map_take]
  have hD : ((xs.map (Value.int .i64) ++ spare).drop i).take ((xs.length - i) * 1) = (xs.drop i).map (Value.int .i64) := by
    rw [List.drop_append_of_le_length (by simpa using hi), List.take_append_of_le_length (by simp), ← List.map_drop, List.take_of_length_le (by simp)]
  have hAl : ((xs.take i).map (Value.int .i64)).length = i := by simp; omega
  have hDl : ((xs.drop i).map (Value.int .i64)).length = xs.length - i := by simp
  have hbn : b ≠ bv := fun e => hva (by rw [e])
  first | refine go2 hd hw ?_ | exact fin2 hd hw
  refine XB.mk' (fun hc => ?_) (fun hc => ?_)
  · have hc' := of_decide_eq_true hc
    first | refine go ?_ | exact fin
    refine XS.mk' (by omega) ?_
    first | refine go2 hw hw2 ?_ | exact fin2 hw hw2
    refine XAppz.mk' (z := [.int .i64 0]) (old := (xs.take i).map (Value.int .i64)) (by omega) (by omega) ?_ (by omega) fun c hc1 hc2 => ?_
    · rw [acells_blk h3 (Nat.le_refl _) (by rw [hlen]; simp; omega)]; exact congrArg some hA
    simp only [Int.toNat_natCast] at hc1 ⊢
    have hz : zrow [Value.int .i64 0] (xs.length + 1 - i) = [Value.int .i64 0] ++ zrow [Value.int .i64 0] (xs.length - i) := by
      rw [← zrow_succ]; congr 1; omega
    have hi1 : i + (xs.length + 1 - i) = xs.length + 1 := by omega
    rw [hi1] at hc1 ⊢
    generalize hZ : zrow [Value.int .i64 0] (c - (xs.length + 1)) = Z
    have hZl : Z.length = c - (xs.length + 1) := by rw [← hZ, zrow_length]; simp
    have hs1 := splice_mid ((xs.take i).map (Value.int .i64)) [Value.int .i64 0] (zrow [Value.int .i64 0] (xs.length - i) ++ Z) [Value.int .i64 k] rfl
    have hs2 := splice_mid ((xs.take i).map (Value.int .i64) ++ [Value.int .i64 k]) (zrow [Value.int .i64 0] (xs.length - i)) Z ((xs.drop i).map (Value.int .i64)) (by rw [zrow_length, hDl]; simp)
    rw [hAl] at hs1
    rw [List.length_append, hAl, List.append_assoc _ _ Z] at hs2
    have hnb : b ≠ H.next := by omega
    have hnv : bv ≠ H.next := by omega
    generalize hC0 : (xs.take i).map (Value.int .i64) ++ zrow [Value.int .i64 0] (xs.length + 1 - i) ++ Z = C0
    have hC0' : C0 = (xs.take i).map (Value.int .i64) ++ [Value.int .i64 0] ++ (zrow [Value.int .i64 0] (xs.length - i) ++ Z) := by rw [← hC0, hz]; simp only [List.append_assoc]
    have hC0l : C0.length = c := by rw [← hC0, List.length_append, List.length_append, hAl, zrow_length, hZl]; simp; omega
    rw [← hC0'] at hs1
    first | refine go ?_ | exact fin
    refine XS.mk' (by omega) ?_
    first | refine go ?_ | exact fin
    refine XCopy.blk (k := 1) (AH.blk_alloc _ _) rfl (by show min _ _ = _; omega) (l := [.int .i64 k]) ?_ (by rw [hC0l]; simp; omega) hs1 ?_
    · rw [acells_blk (by rw [AH.blk_alloc_ne _ _ hnv]; exact hv) (Nat.le_refl _) (by simp)]; rfl
    first | refine go1 hw3 ?_ | exact fin1 hw3
    refine XS.mk' (by omega) ?_
    first | refine go ?_ | exact fin
    refine XS.mk' (by omega) ?_
    first | refine go ?_ | exact fin
    refine XCopy.blk (k := xs.length - i) (AH.blk_set _ _ _) rfl (by show min _ _ = _; omega) (l := (xs.drop i).map (Value.int .i64)) ?_ (by simp only [List.length_append, hAl, zrow_length, List.length_cons, List.length_nil, hDl, hZl]; omega) hs2 ?_
    · rw [acells_blk (by rw [AH.blk_set_ne _ _ hnb, AH.blk_alloc_ne _ _ hnb]; exact h3) (Nat.le_refl _) (by rw [hlen]; omega)]; exact congrArg some hD
    rw [AH.set_set]
    first | refine go ?_ | exact fin
    refine ⟨_, c, _, ?_, rfl, .inr ⟨H.next, Z, rfl, hlo, Nat.lt_succ_self _, ?_, by simp, ?_, by simp; omega, hc2⟩, ⟨Nat.le_succ _, fun x hx hne => ?_⟩⟩
    · simp; omega
    · rw [AH.blk_set]; simp only [List.map_append, List.map_cons, List.append_assoc, List.cons_append, List.nil_append]
    · rw [hZl]; simp; omega
    · rw [AH.blk_set_ne _ _ (Nat.ne_of_lt hx), AH.blk_alloc_ne _ _ (Nat.ne_of_lt hx)]
  · have hc' := of_decide_eq_false hc
    first | refine go1 hw ?_ | exact fin1 hw
    refine XS.mk' (by omega) ?_
    first | refine go1 hw3 ?_ | exact fin1 hw3
    refine XS.mk' (by omega) ?_
    first | refine go ?_ | exact fin
    refine XE.mk' (overlaps_spec hv h3 (Ne.symm hbn) (by rw [hlen]; omega) (by decide) (by omega)) ?_
    rintro v H' ⟨rfl, rfl⟩
    first | refine go1 hw3 ?_ | exact fin1 hw3
    refine XS.mk' (by omega) ?_
    first | refine go ?_ | exact fin
    refine XS.mk' (by omega) ?_
    first | refine go ?_ | exact fin
    -- the room behind
    obtain ⟨s0, Z, rfl⟩ : ∃ s0 Z, spare = s0 :: Z := by
      cases spare with
      | nil => simp at h5; omega
      | cons s0 Z => exact ⟨s0, Z, rfl⟩
    have hZl : Z.length = cap - (xs.length + 1) := by simp at h5; omega
    have hL : xs.map (Value.int .i64) ++ s0 :: Z = ((xs.take i).map (Value.int .i64) ++ ((xs.drop i).map (Value.int .i64) ++ [s0]).take 1) ++ ((xs.drop i).map (Value.int .i64) ++ [s0]).drop 1 ++ Z := by
      rw [List.append_assoc _ (List.take 1 _), List.take_append_drop, ← List.append_assoc, ← List.map_append, List.take_append_drop, List.append_assoc]; rfl
    have hs1 := splice_mid ((xs.take i).map (Value.int .i64) ++ ((xs.drop i).map (Value.int .i64) ++ [s0]).take 1) (((xs.drop i).map (Value.int .i64) ++ [s0]).drop 1) Z ((xs.drop i).map (Value.int .i64)) (by simp)
    rw [← hL] at hs1
    have h1l : (((xs.drop i).map (Value.int .i64) ++ [s0]).take 1).length = 1 := by simp
    rw [List.length_append, hAl, h1l] at hs1
    have hs2 := splice_mid ((xs.take i).map (Value.int .i64)) (((xs.drop i).map (Value.int .i64) ++ [s0]).take 1) ((xs.drop i).map (Value.int .i64) ++ Z) [Value.int .i64 k] (by rw [h1l]; rfl)
    rw [hAl, ← List.append_assoc] at hs2
    generalize ((xs.drop i).map (Value.int .i64) ++ [s0]).take 1 = T at hs1 hs2 h1l
    refine XCopy.blk (k := xs.length - i) h3 rfl (by show min _ _ = _; omega) (l := (xs.drop i).map (Value.int .i64)) ?_ (by rw [hlen, hDl]; omega) hs1 ?_
    · rw [acells_blk h3 (by omega) (by rw [hlen]; omega)]; exact congrArg some hD
    first | refine go ?_ | exact fin
    refine XS.mk' (by omega) ?_
    first | refine go ?_ | exact fin
    refine XCopy.blk (k := 1) (AH.blk_set _ _ _) rfl (by show min _ _ = _; omega) (l := [.int .i64 k]) ?_ (by simp only [List.length_append, hAl, h1l, List.length_cons, List.length_nil, hDl, hZl]; omega) hs2 ?_
    · rw [acells_blk (by rw [AH.blk_set_ne _ _ (Ne.symm hbn)]; exact hv) (Nat.le_refl _) (by simp)]; rfl
    rw [AH.set_set]
    first | refine go ?_ | exact fin
    refine ⟨_, cap, _, ?_, rfl, .inr ⟨b, Z, rfl, h1, h2, ?_, by simp, ?_, by simp; omega, h7⟩, ⟨Nat.le_refl _, fun x hx hne => AH.blk_set_ne _ _ (fun e => hne (by rw [e]))⟩⟩
    · simp; omega
    · rw [AH.blk_set]; simp only [List.map_append, List.map_cons, List.append_assoc, List.cons_append, List.nil_append]
    · rw [hZl]; simp; omega

end Go.Proofs.YtmknkpcdfkpobaaA
