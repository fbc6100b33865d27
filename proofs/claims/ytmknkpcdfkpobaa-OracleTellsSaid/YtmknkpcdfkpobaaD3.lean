/- The library's functions on slices of ints: copies, searches, insertions, deletions. -/
import Derived.Test.YtmknkpcdfkpobaaD2
import Derived.Test.YtmknkpcdfkpobaaA17
set_option linter.unusedVariables false
set_option linter.unusedSimpArgs false
namespace Go.Proofs.YtmknkpcdfkpobaaA
open Go.RowKit

theorem isnan1_spec (x : Int) (H : AH) : ACalls Try.prog 34 [.int .i64 x] H (fun v H' => v = .bool false ∧ H' = H) := by
  refine enter34 ?_
  unfold ac34
  first | refine go ?_ | exact fin

theorem isnan2_spec (x : Int) (H : AH) : ACalls Try.prog 31 [.int .i64 x] H (fun v H' => v = .bool false ∧ H' = H) := by
  refine enter31 ?_
  unfold ac31
  first | refine go ?_ | exact fin

theorem less_spec (x y : Int) (H : AH) : ACalls Try.prog 30 [.int .i64 x, .int .i64 y] H (fun v H' => v = .bool (decide (x < y)) ∧ H' = H) := by
  refine enter30 ?_
  unfold ac30
  first | refine go ?_ | exact fin
  refine XC.mk' (isnan1_spec x H) ?_
  rintro v H' ⟨rfl, rfl⟩
  first | refine go ?_ | exact fin

/-- slices.Clone. -/
theorem clone_spec (xs : List Int) (a : Option Addr) (cap : Nat) (H : AH) (h : IntsR H xs a cap) (hb : xs.length ≤ 1000000000000) :
    ACalls Try.prog 24 [.slice a xs.length cap] H
      (fun v H' => ∃ a' cap', v = .slice a' xs.length cap' ∧ Own H' H.next 1 (xs.map (.int .i64)) a' xs.length cap' ∧ Ext H H') := by
  refine enter24 ?_
  unfold ac24
  first | refine go ?_ | exact fin
  refine XB.mk' (fun hn => ?_) (fun hn => ?_)
  · have ha : a = none := by simpa using hn
    subst ha
    obtain ⟨hl, rfl⟩ := h.nil rfl
    have hx : xs = [] := List.length_eq_zero_iff.1 hl
    subst hx
    first | refine go ?_ | exact fin
    exact ⟨none, 0, rfl, Own.nil H _ _, Ext.refl H⟩
  · first | refine go ?_ | exact fin
    refine XBsl.rw rfl ?_
    refine go ?_
    have hE := Ext.alloc H (.cells [] true)
    refine XApp.own (z := [.int .i64 0]) (lo := H.next) (cs := []) (.inr ⟨H.next, [], rfl, Nat.le_refl _, Nat.lt_succ_self _, upd_same _ _ _, rfl, rfl, Nat.le_refl _, by omega⟩) (m := xs.length) rfl (acells_sl (h.ext hE)) (by omega) (Nat.le_succ _) fun a' cap' H' ho hm => ?_
    first | refine go ?_ | exact fin
    refine ⟨a', cap', rfl, by rw [Nat.zero_add] at ho; exact ho, ⟨Nat.le_trans (Nat.le_succ _) hm.next, fun b hb => ?_⟩⟩
    rw [hm.blk b (Nat.lt_succ_of_lt hb) (by intro e; cases e; exact absurd hb (Nat.lt_irrefl _))]
    exact hE.blk b hb

theorem shr1 (a : Int) (h : 0 ≤ a) (k : IntKind) (hk : k.bits = 64) : rbit .shr (.int k a) (.int .u64 1) = some (.int k (a / 2)) := by
  rw [rbit_shr, if_pos (by decide), hk]
  have : min (Int.toNat 1) 64 = 1 := by decide
  rw [this, Int.pow_succ, Int.pow_zero, Int.one_mul, Int.fdiv_eq_ediv_of_nonneg _ (by decide)]

theorem wrap_u64 {x : Int} (h1 : 0 ≤ x) (h2 : x ≤ 9223372036854775807) : IntKind.u64.wrap x = x := by
  have : IntKind.u64.wrap x = x % 18446744073709551616 := rfl
  rw [this]; omega

/-- A list that rises. -/
def Rises (xs : List Int) : Prop := ∀ i j, i < j → j < xs.length → xs.getD i 0 < xs.getD j 0

/-- slices.BinarySearch. -/
theorem bsearch_spec (xs : List Int) (k : Int) (a : Option Addr) (cap : Nat) (H : AH) (h : IntsR H xs a cap) (hb : xs.length ≤ 1000000) (hr : Rises xs) :
    ACalls Try.prog 25 [.slice a xs.length cap, .int .i64 k] H
      (fun v H' => ∃ p : Nat, v = .tuple [.int .i64 p, .bool (decide (p < xs.length) && decide (xs.getD p 0 = k))].toArray ∧ p ≤ xs.length ∧ (∀ t, t < p → xs.getD t 0 < k) ∧ (∀ t, p ≤ t → t < xs.length → k ≤ xs.getD t 0) ∧ H' = H) := by
  refine enter25 ?_
  unfold ac25
  first | refine go ?_ | exact fin
  refine XL.loop (β := Nat × Nat) (fun s j => [.slice a xs.length cap, .int .i64 k, j 2, j 3, .int .i64 0, .bool false, .int .i64 xs.length, .int .i64 s.1, .int .i64 s.2, j 9, j 10, j 11, j 12, j 13, j 14, j 15, j 16, j 17, j 18, j 19, j 20, j 21, j 22, j 23, j 24, j 25, j 26, j 27, j 28, j 29, j 30, j 31, j 32, j 33, j 34, j 35, j 36, j 37, j 38, j 39, j 40, j 41, j 42, j 43, j 44, j 45, j 46, j 47, j 48, j 49, j 50, j 51, j 52, j 53])
    (fun s H' => H' = H ∧ s.1 ≤ s.2 ∧ s.2 ≤ xs.length ∧ (∀ t, t < s.1 → xs.getD t 0 < k) ∧ (∀ t, s.2 ≤ t → t < xs.length → k ≤ xs.getD t 0)) (fun s => s.2 - s.1) (0, xs.length) (fun n => [undef, undef, undef, undef, undef, undef, undef, undef, undef, undef, .slice a xs.length cap, .int .i64 xs.length, .int .i64 xs.length].getD n undef) rfl
    ⟨rfl, Nat.zero_le _, Nat.le_refl _, fun t ht => absurd ht (Nat.not_lt_zero t), fun t h1 h2 => absurd h1 (Nat.not_le.2 h2)⟩ ?_
  rintro ⟨i, j'⟩ j H' ⟨rfl, hij, hjn, hlo, hhi⟩
  dsimp only at hij hjn hlo hhi ⊢
  first | refine go ?_ | exact fin
  refine XB.mk' (fun hlt => ?_) (fun hge => ?_)
  · have hlt' : i < j' := by simpa using hlt
    have hw1 : IntKind.i64.wrap ((i : Int) + j') = ((i + j' : Nat) : Int) := by rw [wrap_i64 (by omega) (by omega)]; omega
    have hw2 : IntKind.u64.wrap ((i + j' : Nat) : Int) = ((i + j' : Nat) : Int) := wrap_u64 (by omega) (by omega)
    have hs := shr1 ((i + j' : Nat) : Int) (by omega) .u64 rfl
    have hw3 : IntKind.i64.wrap (((i + j' : Nat) : Int) / 2) = (((i + j') / 2 : Nat) : Int) := by rw [wrap_i64 (by omega) (by omega)]; omega
    first | refine go5 hlt hw1 hw2 hs hw3 ?_ | exact fin5 hlt hw1 hw2 hs hw3
    refine xelem_int h (by omega) (by omega) fun b o hl => ?_
    first | refine go1 hl ?_ | exact fin1 hl
    refine XC.mk' (less_spec _ _ _) ?_
    rintro v H' ⟨rfl, rfl⟩
    have hm1 : (i + j') / 2 < j' := by omega
    have hm0 : i ≤ (i + j') / 2 := by omega
    have hw := wrap_succ (i := (i + j') / 2) (n := xs.length) (by omega) (Nat.le_trans hb (by decide))
    first | refine go ?_ | exact fin
    refine XB.mk' (fun hc => ?_) (fun hc => ?_)
    · have hc' := of_decide_eq_true hc
      first | refine go1 hw ?_ | exact fin1 hw
      refine ⟨((i + j') / 2 + 1, j'), rfl, ⟨by dsimp only; omega, hjn, fun t ht => ?_, hhi⟩, by dsimp only; omega⟩
      dsimp only at ht
      rcases Nat.lt_or_ge t ((i + j') / 2) with h1 | h1
      · exact Int.lt_trans (hr t _ h1 (by omega)) hc'
      · have : t = (i + j') / 2 := by omega
        rw [this]; exact hc'
    · have hc' := of_decide_eq_false hc
      first | refine go ?_ | exact fin
      refine ⟨(i, (i + j') / 2), rfl, ⟨hm0, by dsimp only; omega, hlo, fun t h1 h2 => ?_⟩, by dsimp only; omega⟩
      dsimp only at h1
      rcases Nat.lt_or_ge ((i + j') / 2) t with h3 | h3
      · have := hr _ _ h3 h2
        omega
      · have : t = (i + j') / 2 := by omega
        rw [this]
        omega
  · have hge' : i = j' := by have := of_decide_eq_false hge; omega
    subst hge'
    first | refine go1 hge ?_ | exact fin1 hge
    refine XB.mk' (fun hc => ?_) (fun hc => ?_)
    · have hc' : i < xs.length := by simpa using hc
      first | refine go1 hc ?_ | exact fin1 hc
      refine xelem_int h (by omega) (by omega) fun b o hl => ?_
      cases hd : decide (xs.getD i 0 = k) with
      | false =>
        first | refine go2 hl hd ?_ | exact fin2 hl hd
        refine xelem_int h (by omega) (by omega) fun b o hl => ?_
        first | refine go2 hl hd ?_ | exact fin2 hl hd
        refine XC.mk' (isnan2_spec _ _) ?_
        rintro v H' ⟨rfl, rfl⟩
        first | refine go1 hd ?_ | exact fin1 hd
        refine ⟨i, ?_, hjn, hlo, hhi⟩
        simp only [hd, Bool.and_false]
      | true =>
        first | refine go2 hl hd ?_ | exact fin2 hl hd
        refine ⟨i, ?_, hjn, hlo, hhi⟩
        simp only [hc', hd, decide_true, Bool.and_self]
    · first | refine go1 hc ?_ | exact fin1 hc
      refine ⟨i, ?_, hjn, hlo, hhi⟩
      have : ¬ i < xs.length := by simpa using hc
      simp [this]

end Go.Proofs.YtmknkpcdfkpobaaA
