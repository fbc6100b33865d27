/- Right, as the document says it; pure facts on rising lists. -/
import Derived.Test.YtmknkpcdfkpobaaD5
set_option linter.unusedVariables false
set_option linter.unusedSimpArgs false
namespace Go.Proofs.YtmknkpcdfkpobaaA
open Go.RowKit

theorem rRight_spec (xs : List Int) (a : Option Addr) (cap : Nat) (H : AH) (h : IntsR H xs a cap) (hb : xs.length ≤ 9223372036854775807) :
    ACalls Try.prog 12 [.slice a xs.length cap] H (fun v H' => v = .bool (Right xs) ∧ H' = H) := by
  refine enter12 ?_
  unfold ac12
  first | refine go ?_ | exact fin
  refine XL.loop (β := Nat) (fun i j => [.slice a xs.length cap, j 1, .bool false, .int .i64 i, j 4, j 5, j 6, j 7, j 8, j 9, j 10, j 11, j 12, j 13, j 14, j 15, j 16, j 17, j 18, j 19, j 20, j 21, j 22, j 23, j 24, j 25, j 26, j 27, j 28, j 29, j 30, j 31, j 32, j 33, j 34])
    (fun i H' => H' = H ∧ i ≤ xs.length ∧ ∀ k, k < i → okAt xs k = true) (fun i => xs.length - i) 0 (fun _ => undef) rfl ⟨rfl, Nat.zero_le _, fun k hk => absurd hk (Nat.not_lt_zero k)⟩ ?_
  rintro i j H' ⟨rfl, hi, hok⟩
  first | refine go ?_ | exact fin
  refine XB.mk' (fun hlt => ?_) (fun hge => ?_)
  · have hlt' : i < xs.length := by simpa using hlt
    first | refine go1 hlt ?_ | exact fin1 hlt
    refine xelem_int h (by omega) (by omega) fun b o hl => ?_
    first | refine go1 hl ?_ | exact fin1 hl
    refine XC.mk' (rkey_spec _ _) ?_
    rintro v H' ⟨rfl, rfl⟩
    have hw : IntKind.i64.wrap ((i : Int) + 1) = ((i + 1 : Nat) : Int) := by rw [wrap_i64 (by omega) (by omega)]; omega
    cases hk : keyB (xs.getD i 0) with
    | false =>
      first | refine go2 hk hl ?_ | exact fin2 hk hl
      have : Right xs = false := by
        unfold Right
        rw [Bool.and_eq_false_iff, List.all_eq_false]
        exact .inl ⟨i, by simpa using hlt', by simp only [okAt, hk, Bool.false_and]; decide⟩
      simp [this]
    | true =>
      first | refine go2 hk hl ?_ | exact fin2 hk hl
      refine XB.mk' (fun h0 => ?_) (fun h0 => ?_)
      · have h0' : 0 < i := by simpa using h0
        have hw1 : IntKind.i64.wrap ((i : Int) - 1) = ((i - 1 : Nat) : Int) := by rw [wrap_i64 (by omega) (by omega)]; omega
        first | refine go2 h0 hw1 ?_ | exact fin2 h0 hw1
        refine xelem_int h (by omega) (by omega) fun b1 o1 hl1 => ?_
        first | refine go3 hl1 hw1 h0 ?_ | exact fin3 hl1 hw1 h0
        refine xelem_int h (by omega) (by omega) fun b2 o2 hl2 => ?_
        first | refine go3 hl1 hl2 h0 ?_ | exact fin3 hl1 hl2 h0
        refine XB.mk' (fun hc => ?_) (fun hc => ?_)
        · first | refine go2 hc h0 ?_ | exact fin2 hc h0
          have : Right xs = false := by
            unfold Right
            rw [Bool.and_eq_false_iff, List.all_eq_false]
            refine .inl ⟨i, by simpa using hlt', ?_⟩
            have h2 := of_decide_eq_true hc
            have e1 : decide (i = 0) = false := decide_eq_false (by omega)
            have e2 : decide (xs.getD (i - 1) 0 < xs.getD i 0) = false := decide_eq_false (by omega)
            simp only [okAt, hk, e1, e2]; decide
          simp [this]
        · first | refine go3 hc h0 hw ?_ | exact fin3 hc h0 hw
          refine ⟨i + 1, rfl, ⟨by omega, fun k hk' => ?_⟩, by omega⟩
          by_cases hki : k = i
          · subst hki
            have h2 := of_decide_eq_false hc
            have e2 : decide (xs.getD (k - 1) 0 < xs.getD k 0) = true := decide_eq_true (by omega)
            simp only [okAt, hk, e2, Bool.or_true, Bool.and_self]
          · exact hok k (by omega)
      · have h0' : i = 0 := by have := of_decide_eq_false h0; omega
        subst h0'
        first | refine go2 h0 hw ?_ | exact fin2 h0 hw
        refine ⟨0 + 1, rfl, ⟨by omega, fun k hk' => ?_⟩, by omega⟩
        have : k = 0 := by omega
        subst this
        simp only [okAt, hk, decide_true, Bool.true_or, Bool.and_self]
  · have hge' : i = xs.length := by have := of_decide_eq_false hge; omega
    subst hge'
    first | refine go1 hge ?_ | exact fin1 hge
    have : Right xs = decide ((xs.length : Int) ≤ 1000) := by
      unfold Right
      have : (List.range xs.length).all (okAt xs) = true := by
        rw [List.all_eq_true]; intro k hk; exact hok k (by simpa using hk)
      rw [this, Bool.true_and, Bool.eq_iff_iff]
      simp
      omega
    simp [this]

end Go.Proofs.YtmknkpcdfkpobaaA
