/- Keys, and what a set of keys is. -/
import Derived.Test.YtmknkpcdfkpobaaD8
set_option linter.unusedVariables false
set_option linter.unusedSimpArgs false
namespace Go.Proofs.YtmknkpcdfkpobaaA
open Go.RowKit

theorem doR_len (xs : List Int) (kind k : Int) : (doR xs kind k).1.length ≤ xs.length + 1 := by
  unfold doR
  split
  · exact Nat.le_succ _
  · split
    · split
      · exact Nat.le_succ _
      · split
        · exact Nat.le_succ _
        · rw [ins_length]; exact Nat.le_refl _
    · split
      · split
        · exact Nat.le_trans (List.length_filter_le _ _) (Nat.le_succ _)
        · exact Nat.le_succ _
      · exact Nat.le_succ _

def keyStep (s : List Int) (r : Int) : List Int := (doR s 1 (pickP r 20)).1
def keysP (raw : List Int) : List Int := (raw.take 40).foldl keyStep []

theorem foldl_take_succ {α β : Type} (f : β → α → β) (b : β) (l : List α) (i : Nat) (d : α) (h : i < l.length) : (l.take (i + 1)).foldl f b = f ((l.take i).foldl f b) (l.getD i d) := by
  rw [List.take_succ_eq_append_getElem h, List.foldl_append]; simp [List.getD, h]

theorem keys_spec (raw : List Int) (a : Option Addr) (cap : Nat) (H : AH) (h : IntsR H raw a cap) (hr : ∀ x ∈ raw, I64 x) (hb : raw.length ≤ 9223372036854775807) :
    ACalls Try.prog 10 [.slice a raw.length cap] H
      (fun v H' => ∃ a' cap', v = .slice a' (keysP raw).length cap' ∧ Own H' H.next 1 ((keysP raw).map (.int .i64)) a' (keysP raw).length cap' ∧ Ext H H') := by
  refine enter10 ?_
  unfold ac10
  first | refine go ?_ | exact fin
  refine XL.loop (β := Nat × List Int × Option Addr × Nat) (fun s j => [.slice a raw.length cap, j 1, .slice none 0 0, .slice s.2.2.1 s.2.1.length s.2.2.2, .int .i64 s.1, j 5, j 6, j 7, j 8, j 9, j 10, j 11, j 12, j 13, j 14, j 15, j 16, j 17, j 18, j 19, j 20, j 21, j 22, j 23, j 24, j 25, j 26])
    (fun s H' => s.1 ≤ raw.length ∧ s.1 ≤ 40 ∧ s.2.1 = (raw.take s.1).foldl keyStep [] ∧ s.2.1.length ≤ s.1 ∧ Own H' H.next 1 (s.2.1.map (.int .i64)) s.2.2.1 s.2.1.length s.2.2.2 ∧ Ext H H')
    (fun s => raw.length - s.1) (0, [], none, 0) (fun _ => undef) rfl ⟨Nat.zero_le _, Nat.zero_le _, rfl, Nat.le_refl _, Own.nil H _ _, Ext.refl H⟩ ?_
  rintro ⟨i, ys, a1, c1⟩ j H' ⟨hi, hi4, hys, hyl, ho, hE⟩
  dsimp only at hi hi4 hys hyl ho hE ⊢
  first | refine go ?_ | exact fin
  cases hlt : decide ((i : Int) < raw.length) with
  | false =>
    have hge : i = raw.length := by have := of_decide_eq_false hlt; omega
    have he : keysP raw = ys := by
      unfold keysP
      rw [hys, hge, List.take_of_length_le (by omega), List.take_of_length_le (by omega)]
    first | refine go1 hlt ?_ | exact fin1 hlt
    rw [he]
    exact ⟨a1, c1, rfl, ho, hE⟩
  | true =>
    have hlt' : i < raw.length := by simpa using hlt
    cases h40 : decide ((i : Int) < 40) with
    | false =>
      have hge : i = 40 := by have := of_decide_eq_false h40; omega
      have he : keysP raw = ys := by unfold keysP; rw [hys, hge]
      first | refine go2 hlt h40 ?_ | exact fin2 hlt h40
      rw [he]
      exact ⟨a1, c1, rfl, ho, hE⟩
    | true =>
      have h40' : i < 40 := by have := of_decide_eq_true h40; omega
      have hw := wrap_succ hlt' hb
      first | refine go2 hlt h40 ?_ | exact fin2 hlt h40
      refine xelem_int (h.ext hE) (by omega) (by omega) fun b o hl => ?_
      first | refine go1 hl ?_ | exact fin1 hl
      have hx := hr _ (getD_mem hlt')
      refine XC.mk' (pick_spec _ 20 H' hx.1 hx.2 (by decide)) ?_
      rintro v H' ⟨rfl, rfl⟩
      first | refine go ?_ | exact fin
      refine XC.mk' (rDo_spec ys 1 (pickP (raw.getD i 0) 20) a1 c1 H' ho.sl (by omega)) ?_
      intro v H2 hq
      obtain ⟨a2, c2, hv, ho2, hE2⟩ := hq
      subst hv
      first | refine go1 hw ?_ | exact fin1 hw
      refine ⟨(i + 1, keyStep ys (raw.getD i 0), a2, c2), rfl, ⟨by dsimp only; omega, by dsimp only; omega, ?_, ?_, ho2.lower hE.next, hE.trans hE2⟩, by dsimp only; omega⟩
      · dsimp only
        rw [foldl_take_succ _ _ _ _ 0 hlt', hys]
      · exact Nat.le_trans (doR_len _ _ _) (Nat.succ_le_succ hyl)

end Go.Proofs.YtmknkpcdfkpobaaA
