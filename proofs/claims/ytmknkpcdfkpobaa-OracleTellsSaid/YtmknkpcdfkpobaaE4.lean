/- Ops and Told: operations out of raw numbers. -/
import Derived.Test.YtmknkpcdfkpobaaE3
set_option linter.unusedVariables false
set_option linter.unusedSimpArgs false
namespace Go.Proofs.YtmknkpcdfkpobaaA
open Go.RowKit

def t30 : T3 := ⟨0, 0, 0⟩
abbrev T3R (H : AH) (l : List T3) (a : Option Addr) (cap : Nat) : Prop := Sl H 3 (l.flatMap t3Cells) a l.length cap

theorem xelem_t3 {H : AH} {l : List T3} {a : Option Addr} {n cap : Nat} {k : IntKind} {i : Nat} {K : Value → AH → Prop} {t : Tag K} (hs : Sl H 3 (l.flatMap t3Cells) a n cap) (hn : n = l.length) (h1 : i < l.length)
    (h : ∀ b o, CellsR H b o (t3Cells (l.getD i t30)) → K (.pointer (some ⟨b, o, none⟩)) H) : xelem (base (.slice a n cap)) n 3 (.int k i) H K t := by
  subst hn
  refine xelem_sl hs (by omega) (by omega) fun b o hc => h b o ?_
  rw [Int.toNat_natCast, flat_drop t3Cells 3 (fun _ => rfl) t30 l i h1] at hc
  exact hc

theorem CellsR.t0 {H : AH} {b o : Nat} {x : T3} (h : CellsR H b o (t3Cells x)) : rload1 H b o = some (.int .i64 x.a) := h.load (i := 0) rfl
theorem CellsR.t1 {H : AH} {b o : Nat} {x : T3} (h : CellsR H b o (t3Cells x)) : rload1 H b (o + 1) = some (.int .i64 x.b) := h.load (i := 1) rfl
theorem CellsR.t2 {H : AH} {b o : Nat} {x : T3} (h : CellsR H b o (t3Cells x)) : rload1 H b (o + 2) = some (.int .i64 x.c) := h.load (i := 2) rfl

def opOf (raw : List T3) (i : Nat) : OpV := ⟨i, 1 + pickP (raw.getD i t30).a 3, pickP (raw.getD i t30).b 20, pickP (raw.getD i t30).c 4 - 1, 0, 0⟩
def opsAt (raw : List T3) (i : Nat) : List OpV := (List.range i).map (opOf raw)
def opsP (raw : List T3) : List OpV := opsAt raw (min 40 raw.length)

theorem opsAt_length (raw : List T3) (i : Nat) : (opsAt raw i).length = i := by simp [opsAt]
theorem opsAt_succ (raw : List T3) (i : Nat) : opsAt raw (i + 1) = opsAt raw i ++ [opOf raw i] := by simp [opsAt, List.range_succ]

theorem ops_spec (raw : List T3) (a : Option Addr) (cap : Nat) (H : AH) (h : T3R H raw a cap) (hr : ∀ x ∈ raw, x.I64) (hb : raw.length ≤ 9223372036854775807) :
    ACalls Try.prog 17 [.slice a raw.length cap] H
      (fun v H' => ∃ a' cap', v = .slice a' (opsP raw).length cap' ∧ Own H' H.next 6 ((opsP raw).flatMap opCells) a' (opsP raw).length cap' ∧ Ext H H') := by
  refine enter17 ?_
  unfold ac17
  first | refine go ?_ | exact fin
  refine XL.loop (β := Nat × Option Addr × Nat) (fun s j => [.slice a raw.length cap, j 1, .slice none 0 0, .slice s.2.1 s.1 s.2.2, .int .i64 s.1, j 5, j 6, j 7, j 8, j 9, j 10, j 11, j 12, j 13, j 14, j 15, j 16, j 17, j 18, j 19, j 20, j 21, j 22, j 23, j 24, j 25, j 26, j 27, j 28, j 29, j 30, j 31, j 32, j 33, j 34, j 35, j 36, j 37, j 38, j 39, j 40])
    (fun s H' => s.1 ≤ raw.length ∧ s.1 ≤ 40 ∧ Own H' H.next 6 ((opsAt raw s.1).flatMap opCells) s.2.1 s.1 s.2.2 ∧ Ext H H')
    (fun s => raw.length - s.1) (0, none, 0) (fun _ => undef) rfl ⟨Nat.zero_le _, Nat.zero_le _, Own.nil H _ _, Ext.refl H⟩ ?_
  rintro ⟨i, a1, c1⟩ j H' ⟨hi, hi4, ho, hE⟩
  dsimp only at hi hi4 ho hE ⊢
  first | refine go ?_ | exact fin
  have fin : ∀ {i : Nat}, i = min 40 raw.length → opsAt raw i = opsP raw ∧ i = (opsP raw).length := fun h => ⟨by rw [h]; rfl, by rw [h]; exact (opsAt_length _ _).symm⟩
  cases hlt : decide ((i : Int) < raw.length) with
  | false =>
    have hge : i = raw.length := by have := of_decide_eq_false hlt; omega
    obtain ⟨f1, f2⟩ := fin (i := i) (by omega)
    first | refine go1 hlt ?_ | exact fin1 hlt
    rw [f1] at ho
    rw [f2] at ho ⊢
    exact ⟨a1, c1, rfl, ho, hE⟩
  | true =>
    have hlt' : i < raw.length := by simpa using hlt
    cases h40 : decide ((i : Int) < 40) with
    | false =>
      have hge : i = 40 := by have := of_decide_eq_false h40; omega
      obtain ⟨f1, f2⟩ := fin (i := i) (by omega)
      first | refine go2 hlt h40 ?_ | exact fin2 hlt h40
      rw [f1] at ho
      rw [f2] at ho ⊢
      exact ⟨a1, c1, rfl, ho, hE⟩
    | true =>
      have h40' : i < 40 := by have := of_decide_eq_true h40; omega
      have hw := wrap_succ hlt' hb
      have hx : (raw.getD i t30).I64 := hr _ (by simp [List.getD, hlt'])
      first | refine go2 hlt h40 ?_ | exact fin2 hlt h40
      refine xelem_t3 (h.ext hE) rfl hlt' fun b1 o1 q1 => ?_
      first | refine go ?_ | exact fin
      first | refine go1 q1.t0 ?_ | exact fin1 q1.t0
      refine xelem_t3 (h.ext hE) rfl hlt' fun b2 o2 q2 => ?_
      first | refine go ?_ | exact fin
      first | refine go1 q2.t1 ?_ | exact fin1 q2.t1
      refine xelem_t3 (h.ext hE) rfl hlt' fun b3 o3 q3 => ?_
      first | refine go ?_ | exact fin
      first | refine go1 q3.t2 ?_ | exact fin1 q3.t2
      refine XC.mk' (pick_spec _ 3 H' hx.1.1 hx.1.2 (by decide)) ?_
      rintro v H1 ⟨rfl, rfl⟩
      have r1 := pickP_range (raw.getD i t30).a 3 (by decide)
      have r2 := pickP_range (raw.getD i t30).b 20 (by decide)
      have r3 := pickP_range (raw.getD i t30).c 4 (by decide)
      have hw1 := wrap_i64 (x := 1 + pickP (raw.getD i t30).a 3) (by omega) (by omega)
      have hw3 := wrap_i64 (x := pickP (raw.getD i t30).c 4 - 1) (by omega) (by omega)
      first | refine go4 hw1 q1.t0 q2.t1 q3.t2 ?_ | exact fin4 hw1 q1.t0 q2.t1 q3.t2
      refine XC.mk' (pick_spec _ 20 H1 hx.2.1.1 hx.2.1.2 (by decide)) ?_
      rintro v H2 ⟨rfl, rfl⟩
      first | refine go3 q1.t0 q2.t1 q3.t2 ?_ | exact fin3 q1.t0 q2.t1 q3.t2
      refine XC.mk' (pick_spec _ 4 H2 hx.2.2.1 hx.2.2.2 (by decide)) ?_
      rintro v H3 ⟨rfl, rfl⟩
      first | refine go4 hw3 q1.t0 q2.t1 q3.t2 ?_ | exact fin4 hw3 q1.t0 q2.t1 q3.t2
      refine XBsl.z rfl ?_
      refine go ?_
      refine XApp.oneF (z := [.int .i64 0, .int .i64 0, .int .i64 0, .int .i64 0, .int .i64 0, .int .i64 0]) ho rfl (by omega) hE.next fun a' cap' H4 ho4 hm => ?_
      first | refine go1 hw ?_ | exact fin1 hw
      refine ⟨(i + 1, a', cap'), rfl, ⟨by dsimp only; omega, by dsimp only; omega, ?_, Mod.ext hE ho hm⟩, by dsimp only; omega⟩
      dsimp only
      rw [opsAt_succ, List.flatMap_append]
      exact ho4

/-- What stands behind a store into an operation of one's own. -/
theorem flat_set : ∀ (L : List OpV) (i : Nat) (r : Int) (spare : List Value), i < L.length → splice (L.flatMap opCells ++ spare) (i * 6 + 3) [.int .i64 r] = (L.set i { L.getD i op0 with rs := r }).flatMap opCells ++ spare
  | [], i, _, _, h => absurd h (Nat.not_lt_zero i)
  | x :: L, 0, r, spare, _ => by
    simp [splice, opCells]
  | x :: L, i + 1, r, spare, h => by
    have ih := flat_set L i r spare (by simpa using h)
    have e : (i + 1) * 6 + 3 = (opCells x).length + (i * 6 + 3) := by simp [opCells]; omega
    rw [List.flatMap_cons, List.append_assoc, e]
    have : ∀ (A B V : List Value) (k : Nat), splice (A ++ B) (A.length + k) V = A ++ splice B k V := fun A B V k => by
      unfold splice
      rw [List.take_append, List.take_of_length_le (by omega), Nat.add_sub_cancel_left, Nat.add_assoc, List.drop_append, List.drop_eq_nil_of_le (by omega), Nat.add_sub_cancel_left]
      simp
    rw [this, ih]
    simp

/-- A slice whose block is not the one that was written to. -/
theorem Sl.mod {H H' : AH} {sz : Nat} {l : List Value} {a al : Option Addr} {n cap : Nat} (hm : Mod H H' al) (hne : ∀ b o sp, a = some ⟨b, o, sp⟩ → al ≠ some ⟨b, 0, some 0⟩) (h : Sl H sz l a n cap) : Sl H' sz l a n cap :=
  ⟨h.len, h.le, h.nil, fun hn => let ⟨b, o, sp, h1, h2⟩ := h.get hn; ⟨b, o, sp, h1, h2.mod hm (hne _ _ _ h1)⟩⟩

def toldAt (raw : List T3) (L0 : List OpV) (s0 : List Int) : Nat → List OpV × List Int
  | 0 => (L0, s0)
  | i + 1 =>
    if (doR (toldAt raw L0 s0 i).2 ((toldAt raw L0 s0 i).1.getD i op0).kd ((toldAt raw L0 s0 i).1.getD i op0).ky).2.2 = 0 ∧ ¬ (raw.getD i t30).c.tmod 5 = 0 then
      ((toldAt raw L0 s0 i).1.set i { (toldAt raw L0 s0 i).1.getD i op0 with rs := (doR (toldAt raw L0 s0 i).2 ((toldAt raw L0 s0 i).1.getD i op0).kd ((toldAt raw L0 s0 i).1.getD i op0).ky).2.1 },
        (doR (toldAt raw L0 s0 i).2 ((toldAt raw L0 s0 i).1.getD i op0).kd ((toldAt raw L0 s0 i).1.getD i op0).ky).1)
    else toldAt raw L0 s0 i

/-- What Told comes to. -/
def toldP (raw : List T3) (s0 : List Int) : List OpV := (toldAt raw (opsP raw) s0 (opsP raw).length).1

theorem told_spec (s0 : List Int) (raw : List T3) (as' a : Option Addr) (cs cap : Nat) (H : AH) (hs : IntsR H s0 as' cs) (has : ∀ b o sp, as' = some ⟨b, o, sp⟩ → b < H.next) (h : T3R H raw a cap) (hr : ∀ x ∈ raw, x.I64) (hb : raw.length ≤ 9223372036854775807) (hsb : s0.length ≤ 1000) :
    ACalls Try.prog 18 [.slice as' s0.length cs, .slice a raw.length cap] H
      (fun v H' => ∃ a' cap', v = .slice a' (toldP raw s0).length cap' ∧ (toldP raw s0).length ≤ 40 ∧ Own H' H.next 6 ((toldP raw s0).flatMap opCells) a' (toldP raw s0).length cap' ∧ Ext H H') := by
  refine enter18 ?_
  unfold ac18
  first | refine go ?_ | exact fin
  refine XC.mk' (ops_spec raw a cap H h hr hb) ?_
  intro v H0 hq
  obtain ⟨a0, c0, hv, ho, hE⟩ := hq
  subst hv
  have h40 : (opsP raw).length ≤ 40 := by rw [opsP, opsAt_length]; omega
  have hle : (opsP raw).length ≤ raw.length := by rw [opsP, opsAt_length]; omega
  first | refine go ?_ | exact fin
  have hT : toldP raw s0 = (toldAt raw (opsP raw) s0 (opsP raw).length).1 := rfl
  rw [hT]
  clear hT
  generalize opsP raw = L0 at ho h40 hle ⊢
  refine XL.loop (β := Nat × List OpV × List Int × Option Addr × Nat) (fun s j => [.slice as' s0.length cs, .slice a raw.length cap, j 2, j 3, .slice none 0 0, .slice a0 s.2.1.length c0, .slice s.2.2.2.1 s.2.2.1.length s.2.2.2.2, .int .i64 s.1, j 8, j 9, j 10, j 11, j 12, j 13, j 14, j 15, j 16, j 17, j 18, j 19, j 20, j 21, j 22, j 23, j 24, j 25, j 26, j 27, j 28, j 29, j 30, j 31, j 32, j 33, j 34, j 35, j 36, j 37, j 38, j 39, j 40, j 41, j 42, j 43, j 44, j 45, j 46, j 47, j 48, j 49, j 50, j 51, j 52, j 53])
    (fun s H' => toldAt raw L0 s0 s.1 = (s.2.1, s.2.2.1) ∧ s.1 ≤ s.2.1.length ∧ s.2.1.length = L0.length ∧ s.2.2.1.length ≤ s0.length + s.1 ∧ Own H' H.next 6 (s.2.1.flatMap opCells) a0 s.2.1.length c0 ∧ IntsR H' s.2.2.1 s.2.2.2.1 s.2.2.2.2 ∧ (∀ b o sp, s.2.2.2.1 = some ⟨b, o, sp⟩ → a0 ≠ some ⟨b, 0, some 0⟩) ∧ Ext H H')
    (fun s => L0.length - s.1) (0, L0, s0, as', cs) (fun n => [undef, undef, undef, undef, undef, undef, undef, undef, undef, undef, undef, .slice a raw.length cap, .slice a0 L0.length c0, .slice as' s0.length cs].getD n undef) rfl ⟨rfl, Nat.zero_le _, rfl, Nat.le_refl _, ho, hs.ext hE, ?_, hE⟩ ?_
  · intro b o sp he e
    have hbn := has _ _ _ he
    rcases ho with ⟨rfl, _⟩ | ⟨b', _, rfl, h1, _⟩
    · cases e
    · cases e; omega
  clear ho hE
  rintro ⟨i, L, ys, ay, cy⟩ j H' ⟨hT, hi, hL, hyl, ho, hy, hne, hE⟩
  dsimp only at hT hi hL hyl ho hy hne hE ⊢
  first | refine go ?_ | exact fin
  refine XB.mk' (fun hlt => ?_) (fun hge => ?_)
  · have hlt' : i < L.length := by simpa using hlt
    have hw := wrap_succ hlt' (Nat.le_trans (Nat.le_of_eq hL) (Nat.le_trans h40 (by decide)))
    first | refine go1 hlt ?_ | exact fin1 hlt
    refine xelem_op ho.sl rfl hlt' fun b1 o1 q1 => ?_
    first | refine go1 q1.op1 ?_ | exact fin1 q1.op1
    refine xelem_op ho.sl rfl hlt' fun b2 o2 q2 => ?_
    first | refine go1 q2.op2 ?_ | exact fin1 q2.op2
    generalize hx : L.getD i op0 = x at q1 q2
    refine XC.mk' (rDo_spec ys x.kd x.ky ay cy H' hy (by omega)) ?_
    intro v H2 hq
    obtain ⟨a2, c2, hv, ho2, hE2⟩ := hq
    have hlen := doR_len ys x.kd x.ky
    generalize hd : doR ys x.kd x.ky = D at hv ho2 hlen
    obtain ⟨zs, r, e⟩ := D
    dsimp only at hv ho2 hlen
    subst hv
    have hE12 := hE.trans hE2
    have hne2 : ∀ b o sp, a2 = some ⟨b, o, sp⟩ → a0 ≠ some ⟨b, 0, some 0⟩ := by
      intro b o sp he e
      rcases ho2 with ⟨rfl, _⟩ | ⟨b', _, rfl, h1, _⟩
      · cases he
      · cases he
        rcases ho with ⟨rfl, _⟩ | ⟨b'', _, rfl, _, h2, _⟩
        · cases e
        · cases e; omega
    first | refine go2 ((q1.ext hE2).op1) ((q2.ext hE2).op2) ?_ | exact fin2 ((q1.ext hE2).op1) ((q2.ext hE2).op2)
    cases e0 : decide (e = 0) with
    | false =>
      first | refine go2 e0 hw ?_ | exact fin2 e0 hw
      exact ⟨(i + 1, L, ys, ay, cy), rfl, ⟨by simp only [toldAt, hT]; rw [if_neg]; rw [hx, hd]; exact fun h => of_decide_eq_false e0 h.1, hlt', hL, by dsimp only; omega, ho.ext hE2, hy.ext hE2, hne, hE12⟩, by dsimp only; omega⟩
    | true =>
    first | refine go1 e0 ?_ | exact fin1 e0
    refine xelem_t3 (h.ext hE12) rfl (by omega) fun b3 o3 q3 => ?_
    first | refine go ?_ | exact fin
    first | refine go1 q3.t2 ?_ | exact fin1 q3.t2
    cases c5 : decide ((raw.getD i t30).c.tmod 5 = 0) with
    | true =>
      first | refine go3 e0 c5 hw ?_ | exact fin3 e0 c5 hw
      exact ⟨(i + 1, L, ys, ay, cy), rfl, ⟨by simp only [toldAt, hT]; rw [if_neg]; exact fun h => h.2 (of_decide_eq_true c5), hlt', hL, by dsimp only; omega, ho.ext hE2, hy.ext hE2, hne, hE12⟩, by dsimp only; omega⟩
    | false =>
    have hoo := ho.ext hE2
    rcases ho.ext hE2 with ⟨_, h0, _⟩ | ⟨bl, spare, rfl, h1, h2, h3, h4, h5, h6, h7⟩
    · omega
    have hfl := flat_length opCells 6 (fun _ => rfl) L
    first | refine go2 e0 c5 ?_ | exact fin2 e0 c5
    refine xelem.mk' (by omega) ?_
    first | refine go ?_ | exact fin
    refine xstore.mk' h3 rfl rfl (by rw [List.length_append, hfl]; omega) ?_
    rw [cellsL_int, flat_set L i r spare hlt', hx]
    generalize hH3 : H2.set bl _ = H3
    have hm : Mod H2 H3 (some ⟨bl, 0, some 0⟩) := by
      rw [← hH3]; exact ⟨Nat.le_refl _, fun x hx hne => AH.blk_set_ne _ _ (fun e => hne (by rw [e]))⟩
    have hE3 := Mod.ext hE12 hoo hm
    first | refine go1 hw ?_ | exact fin1 hw
    refine ⟨(i + 1, L.set i { x with rs := r }, zs, a2, c2), by simp only [List.length_set], ⟨by simp only [toldAt, hT]; rw [if_pos (by rw [hx, hd]; exact ⟨of_decide_eq_true e0, of_decide_eq_false c5⟩), hx, hd], by simp only [List.length_set]; exact hlt', by simp only [List.length_set]; exact hL, by dsimp only; omega, ?_, (ho2.sl).mod hm hne2, hne2, hE3⟩, by dsimp only; omega⟩
    refine .inr ⟨bl, spare, rfl, h1, ?_, ?_, ?_, ?_, ?_, h7⟩
    · rw [← hH3]; exact h2
    · rw [← hH3, AH.blk_set]
    · rw [flat_length opCells 6 (fun _ => rfl)]
    · rw [List.length_set]; exact h5
    · rw [List.length_set]; exact h6
  · first | refine go ?_ | exact fin
    have hge' : i = L0.length := by have := of_decide_eq_false hge; omega
    rw [← hge', hT]
    exact ⟨a0, c0, rfl, by dsimp only; omega, ho, hE⟩

end Go.Proofs.YtmknkpcdfkpobaaA
