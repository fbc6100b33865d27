/- OracleParts: what the law computes, and that it answers true. -/
import Derived.Test.YtmknkpcdfkpobaaF1
set_option linter.unusedVariables false
set_option linter.unusedSimpArgs false
namespace Go.Proofs.YtmknkpcdfkpobaaA
open Go.RowKit

theorem legalP_append : ∀ (l m : List OpV) (s : List Int), legalP s (l ++ m) = if (legalP s l).2 then legalP (legalP s l).1 m else ((legalP s l).1, false)
  | [], m, s => rfl
  | x :: l, m, s => by
    simp only [List.cons_append, legalP]
    split
    · exact legalP_append l m s
    · split
      · rfl
      · split
        · exact legalP_append l m _
        · rfl

theorem legalP_len : ∀ (l : List OpV) (s : List Int), (legalP s l).1.length ≤ s.length + l.length
  | [], s => Nat.le_refl _
  | x :: l, s => by
    have h1 := legalP_len l s
    have h2 := legalP_len l (doR s x.kd x.ky).1
    have h3 := doR_len s x.kd x.ky
    simp only [legalP, List.length_cons]
    split
    · omega
    · split
      · dsimp only; omega
      · split
        · omega
        · dsimp only; omega

theorem flat_take (L : List OpV) (k : Nat) : (L.flatMap opCells).take (k * 6) = (L.take k).flatMap opCells := by
  induction L generalizing k with
  | nil => simp
  | cons x L ih =>
    cases k with
    | zero => simp
    | succ k =>
      rw [List.take_succ_cons, List.flatMap_cons, List.flatMap_cons, ← ih k]
      have : (k + 1) * 6 = (opCells x).length + k * 6 := by simp [opCells]; omega
      rw [this, List.take_append, List.take_of_length_le (by omega)]
      congr 2
      omega

theorem flat_dropk (L : List OpV) (k : Nat) : (L.flatMap opCells).drop (k * 6) = (L.drop k).flatMap opCells := by
  induction L generalizing k with
  | nil => simp
  | cons x L ih =>
    cases k with
    | zero => simp
    | succ k =>
      rw [List.drop_succ_cons, List.flatMap_cons, ← ih k]
      have : (k + 1) * 6 = (opCells x).length + k * 6 := by simp [opCells]; omega
      rw [this, List.drop_append, List.drop_eq_nil_of_le (by omega), List.nil_append]
      congr 1
      omega

/-- The first k of a slice; the others. -/
theorem Sl.part {H : AH} {sz : Nat} {l : List Value} {b o sp n cap : Nat} (h : Sl H sz l (some ⟨b, o, some sp⟩) n cap) (i k cap' : Nat) (hk : i + k ≤ n) (hc : k ≤ cap') : Sl H sz ((l.drop (i * sz)).take (k * sz)) (some ⟨b, o + i * sz, some sp⟩) k cap' := by
  have hl := h.len
  have hle : (i + k) * sz ≤ n * sz := Nat.mul_le_mul_right _ hk
  rw [Nat.add_mul] at hle
  refine ⟨by simp; omega, hc, fun e => (by cases e), fun hk0 => ?_⟩
  obtain ⟨b', o', sp', he, hcells⟩ := h.get (by omega)
  cases he
  exact ⟨b, o + i * sz, sp, rfl, hcells.part (i * sz) (k * sz) (by omega)⟩

theorem OpsR.part {H : AH} {L : List OpV} {b o sp n cap : Nat} (h : Sl H 6 (L.flatMap opCells) (some ⟨b, o, some sp⟩) n cap) (hn : n = L.length) (i k cap' : Nat) (hk : i + k ≤ n) (hc : k ≤ cap') : OpsR H ((L.drop i).take k) (some ⟨b, o + i * 6, some sp⟩) cap' := by
  have := h.part i k cap' hk hc
  rw [flat_dropk, flat_take] at this
  have hlen : ((L.drop i).take k).length = k := by simp; omega
  unfold OpsR
  rw [hlen]
  exact this

theorem Own.lt {H : AH} {lo sz : Nat} {cs : List Value} {a : Option Addr} {n cap : Nat} (h : Own H lo sz cs a n cap) {b o : Nat} {sp : Option Nat} (he : a = some ⟨b, o, sp⟩) : b < H.next := by
  rcases h with ⟨rfl, _⟩ | ⟨b', _, rfl, _, h2, _⟩
  · cases he
  · cases he; exact h2

theorem parts_spec (raw : List Int) (ops : List T3) (at' : Int) (a b : Option Addr) (cap cb : Nat) (H : AH) (h : IntsR H raw a cap) (hr : ∀ x ∈ raw, I64 x) (hb : raw.length ≤ 9223372036854775807) (ho : T3R H ops b cb) (hor : ∀ x ∈ ops, x.I64) (hob : ops.length ≤ 9223372036854775807) (hat : I64 at') :
    ACalls Try.prog 6 [.slice a raw.length cap, .slice b ops.length cb, .int .i64 at'] H (fun v H' => v = .bool true) := by
  refine enter6 ?_
  unfold ac6
  first | refine go ?_ | exact fin
  refine XC.mk' (awake_spec H) ?_
  rintro v H1 ⟨rfl, hE1⟩
  first | refine go ?_ | exact fin
  refine XC.mk' (keys_spec raw a cap H1 (h.ext hE1) hr hb) ?_
  rintro v H2 ⟨a2, c2, rfl, ho2, hE2⟩
  have hs := keysP_ks raw
  have hsl := keysP_len raw
  generalize keysP raw = s at ho2 hs hsl
  first | refine go ?_ | exact fin
  refine XC.mk' (told_spec s ops a2 b c2 cb H2 ho2.sl (fun b o sp he => ho2.lt he) (ho.ext (hE1.trans hE2)) hor hob (by omega)) ?_
  rintro v H3 ⟨a3, c3, L, rfl, hL, ho3, hE3⟩
  have hw := wrap_i64 (x := (L.length : Int) + 1) (by omega) (by omega)
  first | refine go1 hw ?_ | exact fin1 hw
  refine XC.mk' (pick_spec at' (L.length + 1) H3 hat.1 hat.2 (by omega)) ?_
  rintro v H4 ⟨rfl, rfl⟩
  have rk := pickP_range at' (L.length + 1) (by omega)
  obtain ⟨k, hk⟩ : ∃ k : Nat, pickP at' (L.length + 1) = k := ⟨_, (Int.toNat_of_nonneg rk.1).symm⟩
  rw [hk] at rk ⊢
  have hkL : k ≤ L.length := by omega
  first | refine go ?_ | exact fin
  refine XC.mk' (oLegal_spec s L a2 a3 c2 c3 H4 (ho2.ext hE3).sl ho3.sl (by omega) (by omega)) ?_
  rintro v H5 ⟨a5, c5, hv, ho5, hE5⟩
  have happ := legalP_append (L.take k) (L.drop k) s
  rw [List.take_append_drop] at happ
  have l1 := legalP_len (L.take k) s
  have l0 := legalP_len L s
  have htl : (L.take k).length = k := by simp; omega
  have dr : ∀ x : List Int, decide (x = x) = true := fun x => decide_eq_true rfl
  have ho25 := (ho2.ext hE3).ext hE5
  have ho35 := ho3.ext hE5
  rcases ho35 with ⟨rfl, h0, rfl, _⟩ | ⟨bl, spare, rfl, g1, g2, g3, g4, g5, g6, g7⟩
  · have hL0 : L = [] := List.length_eq_zero_iff.1 h0
    subst hL0
    have hk0 : k = 0 := by simpa using hkL
    subst hk0
    have e5 : legalP s [] = (s, true) := rfl
    rw [e5] at hv ho5
    subst hv
    first | refine go ?_ | exact fin
    refine XS.mk' (by omega) ?_
    first | refine go ?_ | exact fin
    refine XC.mk' (oLegal_spec s [] a2 none c2 0 H5 ho25.sl (Sl.nil' _ 6) (by omega) (by decide)) ?_
    rintro v H6 ⟨a6, c6, hv, ho6, hE6⟩
    rw [e5] at hv ho6
    subst hv
    first | refine go ?_ | exact fin
    refine XS.mk' (by omega) ?_
    first | refine go ?_ | exact fin
    refine XC.mk' (oLegal_spec s [] a6 none c6 0 H6 ho6.sl (Sl.nil' _ 6) (by omega) (by decide)) ?_
    rintro v H7 ⟨a7, c7, hv, ho7, hE7⟩
    rw [e5] at hv ho7
    subst hv
    first | refine go ?_ | exact fin
    refine XRaw.beq (a := true) (b := true) Try.underlying4 rfl rfl ?_
    first | refine go ?_ | exact fin
    refine XC.mk' (ints_spec s s a5 a7 c5 c7 H7 (ho5.ext (hE6.trans hE7)).sl ho7.sl (by omega) (by omega)) ?_
    rintro v H8 ⟨hv, rfl⟩
    rw [dr] at hv
    subst hv
    first | refine go ?_ | exact fin
  · have hsl3 := ho3.sl.ext hE5
    subst hv
    first | refine go ?_ | exact fin
    refine XS.mk' (by omega) ?_
    first | refine go ?_ | exact fin
    have hp1 := OpsR.part hsl3 rfl 0 k c3 (by omega) (by omega)
    rw [List.drop_zero] at hp1
    have q1 := oLegal_spec s (L.take k) a2 (some ⟨bl, 0, some 0⟩) c2 c3 H5 ho25.sl hp1 (by omega) (by omega)
    rw [htl] at q1
    refine XC.mk' q1 ?_
    rintro v H6 ⟨a6, c6, hv, ho6, hE6⟩
    subst hv
    cases hone : (legalP s (L.take k)).2 with
    | false =>
      have e1 : legalP s L = ((legalP s (L.take k)).1, false) := by rw [happ, if_neg (by rw [hone]; decide)]
      rw [e1] at ho5 ⊢
      first | refine go1 hone ?_ | exact fin1 hone
      refine XC.mk' (ints_spec _ _ a5 a6 c5 c6 H6 (ho5.ext hE6).sl ho6.sl (by omega) (by omega)) ?_
      rintro v H8 ⟨hv, rfl⟩
      rw [dr] at hv
      subst hv
      first | refine go ?_ | exact fin
    | true =>
      have e1 : legalP s L = legalP (legalP s (L.take k)).1 (L.drop k) := by rw [happ, if_pos hone]
      first | refine go1 hone ?_ | exact fin1 hone
      refine XS.mk' (by omega) ?_
      first | refine go ?_ | exact fin
      have hp2 := OpsR.part (hsl3.ext hE6) rfl k (L.length - k) (c3 - k) (by omega) (by omega)
      rw [List.take_of_length_le (by simp)] at hp2
      have hdl : (L.drop k).length = L.length - k := by simp
      rw [Nat.zero_add] at hp2
      have q2 := oLegal_spec (legalP s (L.take k)).1 (L.drop k) a6 (some ⟨bl, k * 6, some 0⟩) c6 (c3 - k) H6 ho6.sl hp2 (by omega) (by omega)
      rw [hdl] at q2
      refine XC.mk' q2 ?_
      rintro v H7 ⟨a7, c7, hv, ho7, hE7⟩
      subst hv
      rw [e1] at ho5 ⊢
      have l2 := legalP_len (L.drop k) (legalP s (L.take k)).1
      first | refine go ?_ | exact fin
      refine XRaw.beq Try.underlying4 rfl rfl ?_
      have hbb : ((legalP (legalP s (L.take k)).1 (L.drop k)).2 == (legalP (legalP s (L.take k)).1 (L.drop k)).2) = true := by simp
      rw [hbb]
      first | refine go ?_ | exact fin
      refine XC.mk' (ints_spec _ _ a5 a7 c5 c7 H7 (ho5.ext (hE6.trans hE7)).sl ho7.sl (by omega) (by omega)) ?_
      rintro v H8 ⟨hv, rfl⟩
      rw [dr] at hv
      subst hv
      first | refine go ?_ | exact fin

end Go.Proofs.YtmknkpcdfkpobaaA
