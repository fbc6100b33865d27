/- Do: the document's and the program's. -/
import Derived.Test.YtmknkpcdfkpobaaD7
set_option linter.unusedVariables false
set_option linter.unusedSimpArgs false
namespace Go.Proofs.YtmknkpcdfkpobaaA
open Go.RowKit

/-- What a Do answers. -/
def DoQ (xs : List Int) (kind k : Int) (H : AH) (v : Value) (H' : AH) : Prop :=
  ∃ a' cap', v = .tuple [.slice a' (doR xs kind k).1.length cap', .int .i64 (doR xs kind k).2.1, .int .i64 (doR xs kind k).2.2].toArray ∧ Own H' H.next 1 ((doR xs kind k).1.map (.int .i64)) a' (doR xs kind k).1.length cap' ∧ Ext H H'

theorem DoQ.mk {xs : List Int} {kind k : Int} {H H' : AH} {v : Value} {ys : List Int} {r e : Int} {a' : Option Addr} {cap' : Nat} (hd : doR xs kind k = (ys, r, e)) (hv : v = .tuple [.slice a' ys.length cap', .int .i64 r, .int .i64 e].toArray)
    (ho : Own H' H.next 1 (ys.map (.int .i64)) a' ys.length cap') (hE : Ext H H') : DoQ xs kind k H v H' :=
  ⟨a', cap', by rw [hd]; exact hv, by rw [hd]; exact ho, hE⟩

theorem rDo_spec (xs : List Int) (kind k : Int) (a : Option Addr) (cap : Nat) (H : AH) (h : IntsR H xs a cap) (hb : xs.length ≤ 1000000) :
    ACalls Try.prog 15 [.slice a xs.length cap, .int .i64 kind, .int .i64 k] H (DoQ xs kind k H) := by
  refine enter15 ?_
  unfold ac15
  first | refine go ?_ | exact fin
  refine XApp.own (z := [.int .i64 0]) (Own.nil H H.next _) (m := xs.length) rfl (acells_sl h) (by omega) (Nat.le_refl _) fun a0 c0 H0 ho hm => ?_
  have hE : Ext H H0 := ⟨hm.next, fun b hb => hm.blk b hb (by intro e; cases e)⟩
  simp only [List.nil_append, Nat.zero_add] at ho ⊢
  first | refine go ?_ | exact fin
  refine XC.mk' (rRight_spec xs a cap H0 (h.ext hE) (by omega)) ?_
  rintro v H' ⟨rfl, rfl⟩
  cases hR : Right xs with
  | false =>
    first | refine go1 hR ?_ | exact fin1 hR
    exact DoQ.mk (ys := xs) (by unfold doR; rw [if_pos (.inl hR)]) rfl ho hE
  | true =>
    cases h1 : decide (kind < 1) with
    | true =>
      first | refine go2 hR h1 ?_ | exact fin2 hR h1
      exact DoQ.mk (ys := xs) (by unfold doR; rw [if_pos (.inr (.inl (of_decide_eq_true h1)))]) rfl ho hE
    | false =>
    cases h3 : decide (3 < kind) with
    | true =>
      first | refine go3 hR h1 h3 ?_ | exact fin3 hR h1 h3
      exact DoQ.mk (ys := xs) (by unfold doR; rw [if_pos (.inr (.inr (.inl (of_decide_eq_true h3))))]) rfl ho hE
    | false =>
    first | refine go3 hR h1 h3 ?_ | exact fin3 hR h1 h3
    refine XC.mk' (rkey_spec k H') ?_
    rintro v H' ⟨rfl, rfl⟩
    cases hk : keyB k with
    | false =>
      first | refine go1 hk ?_ | exact fin1 hk
      exact DoQ.mk (ys := xs) (by unfold doR; rw [if_pos (.inr (.inr (.inr hk)))]) rfl ho hE
    | true =>
    have hgo : ¬ (Right xs = false ∨ kind < 1 ∨ 3 < kind ∨ keyB k = false) := by
      rintro (h | h | h | h)
      · rw [hR] at h; cases h
      · exact of_decide_eq_false h1 h
      · exact of_decide_eq_false h3 h
      · rw [hk] at h; cases h
    first | refine go1 hk ?_ | exact fin1 hk
    refine XC.mk' (has_spec xs k a cap H' (h.ext hE) (by omega)) ?_
    rintro v H' ⟨rfl, rfl⟩
    cases hc : xs.contains k with
    | true =>
      cases e1 : decide (kind = 1) with
      | true =>
        first | refine go2 hc e1 ?_ | exact fin2 hc e1
        exact DoQ.mk (ys := xs) (by unfold doR; rw [if_neg hgo, if_pos (of_decide_eq_true e1), if_pos hc]) rfl ho hE
      | false =>
        cases e2 : decide (kind = 2) with
        | true =>
          first | refine go3 hc e1 e2 ?_ | exact fin3 hc e1 e2
          refine XC.mk' (without_spec xs k a cap H' (h.ext hE) hb) ?_
          rintro v H' ⟨a2, c2, ys, rfl, hy, ho2, hE2⟩
          first | refine go ?_ | exact fin
          exact DoQ.mk (ys := ys) (by unfold doR; rw [if_neg hgo, if_neg (of_decide_eq_false e1), if_pos (of_decide_eq_true e2), if_pos hc, hy]; rfl) rfl (ho2.lower hE.next) (hE.trans hE2)
        | false =>
          first | refine go3 hc e1 e2 ?_ | exact fin3 hc e1 e2
          exact DoQ.mk (ys := xs) (by unfold doR; rw [if_neg hgo, if_neg (of_decide_eq_false e1), if_neg (of_decide_eq_false e2), if_pos hc]) rfl ho hE
    | false =>
      cases e1 : decide (kind = 1) with
      | true =>
        cases hl : decide (1000 ≤ (xs.length : Int)) with
        | true =>
          first | refine go3 hc e1 hl ?_ | exact fin3 hc e1 hl
          exact DoQ.mk (ys := xs) (by unfold doR; rw [if_neg hgo, if_pos (of_decide_eq_true e1), if_neg (by rw [hc]; decide), if_pos (by have := of_decide_eq_true hl; omega)]) rfl ho hE
        | false =>
          first | refine go3 hc e1 hl ?_ | exact fin3 hc e1 hl
          refine XC.mk' (with_spec xs k a cap H' (h.ext hE) hb) ?_
          rintro v H' ⟨a2, c2, ys, rfl, hy, ho2, hE2⟩
          first | refine go ?_ | exact fin
          exact DoQ.mk (ys := ys) (by unfold doR; rw [if_neg hgo, if_pos (of_decide_eq_true e1), if_neg (by rw [hc]; decide), if_neg (by have := of_decide_eq_false hl; omega), hy]) rfl (ho2.lower hE.next) (hE.trans hE2)
      | false =>
        first | refine go2 hc e1 ?_ | exact fin2 hc e1
        refine DoQ.mk (ys := xs) ?_ rfl ho hE
        unfold doR
        rw [if_neg hgo, if_neg (of_decide_eq_false e1), hc]
        split <;> rfl

theorem Own.ne {H : AH} {lo sz : Nat} {cs : List Value} {a : Option Addr} {n cap : Nat} (h : Own H lo sz cs a n cap) : a ≠ some ⟨H.next, 0, some 0⟩ := by
  rcases h with ⟨rfl, _⟩ | ⟨b, _, rfl, _, h2, _⟩
  · intro e; cases e
  · intro e; cases e; exact absurd h2 (Nat.lt_irrefl _)

theorem oDo_spec (xs : List Int) (kind k : Int) (a : Option Addr) (cap : Nat) (H : AH) (h : IntsR H xs a cap) (hb : xs.length ≤ 1000000) :
    ACalls Try.prog 14 [.slice a xs.length cap, .int .i64 kind, .int .i64 k] H (DoQ xs kind k H) := by
  refine enter14 ?_
  unfold ac14
  first | refine go ?_ | exact fin
  refine XC.mk' (clone_spec xs a cap H h (by omega)) ?_
  rintro v H0 ⟨a0, c0, rfl, ho, hE⟩
  first | refine go ?_ | exact fin
  refine XC.mk' (oRight_spec xs a cap H0 (h.ext hE) (by omega)) ?_
  rintro v H' ⟨rfl, rfl⟩
  cases hR : Right xs with
  | false =>
    first | refine go1 hR ?_ | exact fin1 hR
    exact DoQ.mk (ys := xs) (by unfold doR; rw [if_pos (.inl hR)]) rfl ho hE
  | true =>
    first | refine go1 hR ?_ | exact fin1 hR
    refine XC.mk' (key_spec k H') ?_
    rintro v H' ⟨rfl, rfl⟩
    cases hk : keyB k with
    | false =>
      first | refine go1 hk ?_ | exact fin1 hk
      exact DoQ.mk (ys := xs) (by unfold doR; rw [if_pos (.inr (.inr (.inr hk)))]) rfl ho hE
    | true =>
    first | refine go1 hk ?_ | exact fin1 hk
    refine XC.mk' (bsearch_spec xs k a cap H' (h.ext hE) hb (Right.rises hR)) ?_
    intro v H1 hq
    obtain ⟨p, hv, hp, hlo, hhi, hH⟩ := hq
    rw [found_iff hlo hhi (Right.rises hR)] at hv
    subst hH
    subst hv
    first | refine go ?_ | exact fin
    have hgo : 1 ≤ kind → kind ≤ 3 → ¬ (Right xs = false ∨ kind < 1 ∨ 3 < kind ∨ keyB k = false) := by
      rintro g1 g3 (h | h | h | h)
      · rw [hR] at h; cases h
      · omega
      · omega
      · rw [hk] at h; cases h
    have hle := Right.le hR
    cases e1 : decide (kind = 1) with
    | true =>
      have hk1 := of_decide_eq_true e1
      cases hc : xs.contains k with
      | true =>
        first | refine go2 hc e1 ?_ | exact fin2 hc e1
        exact DoQ.mk (ys := xs) (by unfold doR; rw [if_neg (hgo (by omega) (by omega)), if_pos hk1, if_pos hc]) rfl ho hE
      | false =>
        cases hl : decide ((xs.length : Int) = 1000) with
        | true =>
          first | refine go3 hc e1 hl ?_ | exact fin3 hc e1 hl
          exact DoQ.mk (ys := xs) (by unfold doR; rw [if_neg (hgo (by omega) (by omega)), if_pos hk1, if_neg (by rw [hc]; decide), if_pos (by have := of_decide_eq_true hl; omega)]) rfl ho hE
        | false =>
          first | refine go3 hc e1 hl ?_ | exact fin3 hc e1 hl
          have hni : ¬ k ∈ xs := by
            intro hm; rw [← List.contains_iff_mem, hc] at hm; cases hm
          have hEa := Ext.alloc H1 (.cells [Value.int .i64 k] true)
          refine XBsl.rw rfl ?_
          refine go ?_
          refine XC.mk' (insert_spec xs p k a0 c0 H.next H1.next _ (ho.ext hEa) (AH.blk_alloc _ _) ho.ne (Nat.lt_succ_self _) (Nat.le_trans hE.next hEa.next) hp (by omega)) ?_
          intro v H2 hq
          obtain ⟨a2, c2, ys, hv, hy, ho2, hm⟩ := hq
          subst hv
          first | refine go ?_ | exact fin
          exact DoQ.mk (ys := ys) (by unfold doR; rw [if_neg (hgo (by omega) (by omega)), if_pos hk1, if_neg (by rw [hc]; decide), if_neg (by have := of_decide_eq_false hl; omega), hy, ins_at hp hlo hhi hni]) rfl ho2 (Mod.ext (hE.trans hEa) (ho.ext hEa) hm)
    | false =>
    have hk1 := of_decide_eq_false e1
    cases e2 : decide (kind = 2) with
    | true =>
      have hk2 := of_decide_eq_true e2
      cases hc : xs.contains k with
      | true =>
        have hf := found_iff hlo hhi (Right.rises hR)
        rw [hc, Bool.and_eq_true] at hf
        have hpl := of_decide_eq_true hf.1
        have hpk := of_decide_eq_true hf.2
        have hw : IntKind.i64.wrap ((p : Int) + 1) = ((p + 1 : Nat) : Int) := by rw [wrap_i64 (by omega) (by omega)]; omega
        first | refine go4 hc e1 e2 hw ?_ | exact fin4 hc e1 e2 hw
        refine XC.mk' (delete_spec xs p (p + 1) a0 c0 H.next H1 ho (Nat.lt_succ_self _) hpl (by omega)) ?_
        intro v H2 hq
        obtain ⟨ys, hv, hy, ho2, hm⟩ := hq
        subst hv
        first | refine go ?_ | exact fin
        exact DoQ.mk (ys := ys) (by unfold doR; rw [if_neg (hgo (by omega) (by omega)), if_neg hk1, if_pos hk2, if_pos hc, hy, rem_at hpl hpk (Right.rises hR)]) rfl ho2 (Mod.ext hE ho hm)
      | false =>
        first | refine go3 hc e1 e2 ?_ | exact fin3 hc e1 e2
        exact DoQ.mk (ys := xs) (by unfold doR; rw [if_neg (hgo (by omega) (by omega)), if_neg hk1, if_pos hk2, if_neg (by rw [hc]; decide)]) rfl ho hE
    | false =>
    have hk2 := of_decide_eq_false e2
    cases e3 : decide (kind = 3) with
    | true =>
      have hk3 := of_decide_eq_true e3
      cases hc : xs.contains k with
      | true =>
        first | refine go4 hc e1 e2 e3 ?_ | exact fin4 hc e1 e2 e3
        exact DoQ.mk (ys := xs) (by unfold doR; rw [if_neg (hgo (by omega) (by omega)), if_neg hk1, if_neg hk2, if_pos hc]) rfl ho hE
      | false =>
        first | refine go4 hc e1 e2 e3 ?_ | exact fin4 hc e1 e2 e3
        exact DoQ.mk (ys := xs) (by unfold doR; rw [if_neg (hgo (by omega) (by omega)), if_neg hk1, if_neg hk2, if_neg (by rw [hc]; decide)]) rfl ho hE
    | false =>
      have hk3 := of_decide_eq_false e3
      first | refine go3 e1 e2 e3 ?_ | exact fin3 e1 e2 e3
      exact DoQ.mk (ys := xs) (by unfold doR; rw [if_pos (by omega)]) rfl ho hE

end Go.Proofs.YtmknkpcdfkpobaaA
