/- Operations, and Legal. -/
import Derived.Test.YtmknkpcdfkpobaaE1
set_option linter.unusedVariables false
set_option linter.unusedSimpArgs false
namespace Go.Proofs.YtmknkpcdfkpobaaA
open Go.RowKit

structure OpV where
  th : Int
  kd : Int
  ky : Int
  rs : Int
  fr : Int
  to : Int

def opCells (o : OpV) : List Value := [.int .i64 o.th, .int .i64 o.kd, .int .i64 o.ky, .int .i64 o.rs, .int .i64 o.fr, .int .i64 o.to]
def op0 : OpV := ⟨0, 0, 0, 0, 0, 0⟩
def OpV.I64 (o : OpV) : Prop := YtmknkpcdfkpobaaA.I64 o.th ∧ YtmknkpcdfkpobaaA.I64 o.kd ∧ YtmknkpcdfkpobaaA.I64 o.ky ∧ YtmknkpcdfkpobaaA.I64 o.rs ∧ YtmknkpcdfkpobaaA.I64 o.fr ∧ YtmknkpcdfkpobaaA.I64 o.to
theorem OpV.ft (x : List Value) (h : HasFT (.agg [.int, .int, .int, .int, .int, .int]) x) : ∃ a : OpV, a.I64 ∧ x = opCells a := by
  obtain ⟨n0, b0, g0, k0, e0⟩ := h.agg.int
  obtain ⟨n1, b1, g1, k1, e1⟩ := k0.int
  obtain ⟨n2, b2, g2, k2, e2⟩ := k1.int
  obtain ⟨n3, b3, g3, k3, e3⟩ := k2.int
  obtain ⟨n4, b4, g4, k4, e4⟩ := k3.int
  obtain ⟨n5, b5, g5, k5, e5⟩ := k4.int
  have e := k5.nil
  exact ⟨⟨n0, n1, n2, n3, n4, n5⟩, ⟨g0, g1, g2, g3, g4, g5⟩, by rw [e0, e1, e2, e3, e4, e5, e]; rfl⟩

abbrev OpsR (H : AH) (l : List OpV) (a : Option Addr) (cap : Nat) : Prop := Sl H 6 (l.flatMap opCells) a l.length cap

theorem flat_drop {α : Type} (f : α → List Value) (sz : Nat) (hf : ∀ x, (f x).length = sz) (d : α) : ∀ (l : List α) (i : Nat), i < l.length → ((l.flatMap f).drop (i * sz)).take sz = f (l.getD i d)
  | [], i, h => absurd h (Nat.not_lt_zero i)
  | x :: l, 0, _ => by
    rw [List.flatMap_cons, Nat.zero_mul, List.drop_zero, ← hf x, List.take_left]; rfl
  | x :: l, i + 1, h => by
    rw [List.flatMap_cons, Nat.add_mul, Nat.one_mul, Nat.add_comm, ← List.drop_drop, ← hf x, List.drop_left, hf x]
    exact flat_drop f sz hf d l i (by simpa using h)

theorem flat_length {α : Type} (f : α → List Value) (sz : Nat) (hf : ∀ x, (f x).length = sz) : ∀ l : List α, (l.flatMap f).length = l.length * sz
  | [] => by simp
  | x :: l => by rw [List.flatMap_cons, List.length_append, hf, flat_length f sz hf l, List.length_cons, Nat.add_mul, Nat.one_mul, Nat.add_comm]

/-- An operation out of a slice of these. -/
theorem xelem_op {H : AH} {l : List OpV} {a : Option Addr} {n cap : Nat} {k : IntKind} {i : Nat} {K : Value → AH → Prop} {t : Tag K} (hs : Sl H 6 (l.flatMap opCells) a n cap) (hn : n = l.length) (h1 : i < l.length)
    (h : ∀ b o, CellsR H b o (opCells (l.getD i op0)) → K (.pointer (some ⟨b, o, none⟩)) H) : xelem (base (.slice a n cap)) n 6 (.int k i) H K t := by
  subst hn
  refine xelem_sl hs (by omega) (by omega) fun b o hc => h b o ?_
  rw [Int.toNat_natCast, flat_drop opCells 6 (fun _ => rfl) op0 l i h1] at hc
  exact hc

theorem CellsR.op1 {H : AH} {b o : Nat} {x : OpV} (h : CellsR H b o (opCells x)) : rload1 H b (o + 1) = some (.int .i64 x.kd) := h.load (i := 1) rfl
theorem CellsR.op2 {H : AH} {b o : Nat} {x : OpV} (h : CellsR H b o (opCells x)) : rload1 H b (o + 2) = some (.int .i64 x.ky) := h.load (i := 2) rfl
theorem CellsR.op3 {H : AH} {b o : Nat} {x : OpV} (h : CellsR H b o (opCells x)) : rload1 H b (o + 3) = some (.int .i64 x.rs) := h.load (i := 3) rfl
theorem CellsR.opN {H : AH} {b o : Nat} {x : OpV} (h : CellsR H b o (opCells x)) : rloadN H 6 b o = some (.agg (opCells x).toArray) := h.loadN rfl

/-- What a row of operations comes to, and whether they may be so. -/
def legalP (s : List Int) : List OpV → List Int × Bool
  | [] => (s, true)
  | x :: l =>
    if x.rs = 2 ∧ x.kd = 1 ∧ ((doR s x.kd x.ky).2.2 = 0 ∨ (doR s x.kd x.ky).2.2 = 2) then legalP s l
    else if (doR s x.kd x.ky).2.2 ≠ 0 then (s, false)
    else if x.rs = (doR s x.kd x.ky).2.1 ∨ x.rs = -1 then legalP (doR s x.kd x.ky).1 l
    else (s, false)

def LegalQ (s : List Int) (l : List OpV) (H : AH) (v : Value) (H' : AH) : Prop :=
  ∃ a' cap', v = .tuple [.slice a' (legalP s l).1.length cap', .bool (legalP s l).2].toArray ∧ Own H' H.next 1 ((legalP s l).1.map (.int .i64)) a' (legalP s l).1.length cap' ∧ Ext H H'

theorem LegalQ.mk {s : List Int} {l : List OpV} {H H' : AH} {v : Value} {ys : List Int} {r : Bool} {a' : Option Addr} {cap' : Nat} (hd : legalP s l = (ys, r)) (hv : v = .tuple [.slice a' ys.length cap', .bool r].toArray)
    (ho : Own H' H.next 1 (ys.map (.int .i64)) a' ys.length cap') (hE : Ext H H') : LegalQ s l H v H' :=
  ⟨a', cap', by rw [hd]; exact hv, by rw [hd]; exact ho, hE⟩

theorem drop_cons {α : Type} (l : List α) (i : Nat) (d : α) (h : i < l.length) : l.drop i = l.getD i d :: l.drop (i + 1) := by
  rw [List.drop_eq_getElem_cons h]; simp [List.getD, h]

theorem rLegal_spec (xs : List Int) (l : List OpV) (a b : Option Addr) (cap cb : Nat) (H : AH) (h : IntsR H xs a cap) (hl : OpsR H l b cb) (hb : xs.length ≤ 1000) (hb2 : l.length ≤ 1000) :
    ACalls Try.prog 20 [.slice a xs.length cap, .slice b l.length cb] H (LegalQ xs l H) := by
  refine enter20 ?_
  unfold ac20
  first | refine go ?_ | exact fin
  refine XApp.own (z := [.int .i64 0]) (Own.nil H H.next _) (m := xs.length) rfl (acells_sl h) (by omega) (Nat.le_refl _) fun a0 c0 H0 ho hm => ?_
  have hE : Ext H H0 := ⟨hm.next, fun b hb => hm.blk b hb (by intro e; cases e)⟩
  simp only [List.nil_append, Nat.zero_add] at ho ⊢
  first | refine go ?_ | exact fin
  refine XL.loop (β := Nat × List Int × Option Addr × Nat) (fun s j => [.slice a xs.length cap, .slice b l.length cb, j 2, j 3, .slice none 0 0, .bool false, .slice s.2.2.1 s.2.1.length s.2.2.2, .int .i64 s.1, j 8, j 9, j 10, j 11, j 12, j 13, j 14, j 15, j 16, j 17, j 18, j 19, j 20, j 21, j 22, j 23, j 24, j 25, j 26, j 27, j 28, j 29, j 30, j 31, j 32, j 33, j 34, j 35, j 36, j 37, j 38, j 39, j 40, j 41, j 42, j 43, j 44, j 45, j 46, j 47, j 48, j 49, j 50, j 51, j 52, j 53, j 54, j 55, j 56, j 57, j 58, j 59, j 60, j 61, j 62, j 63, j 64, j 65, j 66, j 67, j 68, j 69, j 70, j 71, j 72, j 73, j 74, j 75, j 76, j 77])
    (fun s H' => s.1 ≤ l.length ∧ s.2.1.length ≤ xs.length + s.1 ∧ legalP xs l = legalP s.2.1 (l.drop s.1) ∧ Own H' H.next 1 (s.2.1.map (.int .i64)) s.2.2.1 s.2.1.length s.2.2.2 ∧ Ext H H')
    (fun s => l.length - s.1) (0, xs, a0, c0) (fun n => [undef, undef, undef, undef, undef, undef, undef, undef, undef, undef, undef, .slice a xs.length cap, .slice a0 xs.length c0].getD n undef) rfl ⟨Nat.zero_le _, Nat.le_refl _, rfl, ho, hE⟩ ?_
  clear ho hE hm
  rintro ⟨i, ys, a1, c1⟩ j H' ⟨hi, hyl, hleg, ho, hE⟩
  dsimp only at hi hyl hleg ho hE ⊢
  first | refine go ?_ | exact fin
  refine XB.mk' (fun hlt => ?_) (fun hge => ?_)
  · have hlt' : i < l.length := by simpa using hlt
    have hw := wrap_succ hlt' (Nat.le_trans hb2 (by decide))
    rw [drop_cons l i op0 hlt'] at hleg
    generalize hx : l.getD i op0 = x at hleg
    first | refine go1 hlt ?_ | exact fin1 hlt
    refine xelem_op (hl.ext hE) rfl hlt' fun b1 o1 hc1 => ?_
    rw [hx] at hc1
    first | refine go1 hc1.op1 ?_ | exact fin1 hc1.op1
    refine xelem_op (hl.ext hE) rfl hlt' fun b2 o2 hc2 => ?_
    rw [hx] at hc2
    first | refine go1 hc2.op2 ?_ | exact fin1 hc2.op2
    refine XC.mk' (rDo_spec ys x.kd x.ky a1 c1 H' ho.sl (by omega)) ?_
    intro v H2 hq
    obtain ⟨a2, c2, hv, ho2, hE2⟩ := hq
    have hlen := doR_len ys x.kd x.ky
    simp only [legalP] at hleg
    generalize hd : doR ys x.kd x.ky = D at hv ho2 hlen hleg
    obtain ⟨zs, r, e⟩ := D
    dsimp only at hv ho2 hlen hleg
    subst hv
    have hc1' := hc1.ext hE2
    have hc2' := hc2.ext hE2
    first | refine go2 hc1'.op1 hc2'.op2 ?_ | exact fin2 hc1'.op1 hc2'.op2
    refine xelem_op (hl.ext (hE.trans hE2)) rfl hlt' fun b3 o3 hc3 => ?_
    rw [hx] at hc3
    first | refine go1 hc3.op3 ?_ | exact fin1 hc3.op3
    cases d2 : decide (x.rs = 2) with
    | true =>
      have d2' := of_decide_eq_true d2
      first | refine go1 d2 ?_ | exact fin1 d2
      refine xelem_op (hl.ext (hE.trans hE2)) rfl hlt' fun b4 o4 hc4 => ?_
      rw [hx] at hc4
      cases k1 : decide (x.kd = 1) with
      | true =>
        have k1' := of_decide_eq_true k1
        cases e0 : decide (e = 0) with
        | true =>
          have e0' := of_decide_eq_true e0
          rw [if_pos ⟨d2', k1', .inl e0'⟩] at hleg
          first | refine go4 hc4.op1 k1 e0 hw ?_ | exact fin4 hc4.op1 k1 e0 hw
          exact ⟨(i + 1, ys, a1, c1), rfl, ⟨hlt', by dsimp only; omega, hleg, ho.ext hE2, hE.trans hE2⟩, by dsimp only; omega⟩
        | false =>
          have e0' := of_decide_eq_false e0
          cases e2 : decide (e = 2) with
          | true =>
            have e2' := of_decide_eq_true e2
            rw [if_pos ⟨d2', k1', .inr e2'⟩] at hleg
            first | refine go5 hc4.op1 k1 e0 e2 hw ?_ | exact fin5 hc4.op1 k1 e0 e2 hw
            exact ⟨(i + 1, ys, a1, c1), rfl, ⟨hlt', by dsimp only; omega, hleg, ho.ext hE2, hE.trans hE2⟩, by dsimp only; omega⟩
          | false =>
            have e2' := of_decide_eq_false e2
            rw [if_neg (by omega), if_pos e0'] at hleg
            first | refine go4 hc4.op1 k1 e0 e2 ?_ | exact fin4 hc4.op1 k1 e0 e2
            exact LegalQ.mk (ys := ys) hleg rfl (ho.ext hE2) (hE.trans hE2)
      | false =>
        have k1' := of_decide_eq_false k1
        first | refine go2 hc4.op1 k1 ?_ | exact fin2 hc4.op1 k1
        have hn : ¬ (x.rs = 2 ∧ x.kd = 1 ∧ (e = 0 ∨ e = 2)) := by omega
        rw [if_neg hn] at hleg
        cases e0 : decide (e = 0) with
        | false =>
          have e0' := of_decide_eq_false e0
          rw [if_pos e0'] at hleg
          first | refine go2 k1 e0 ?_ | exact fin2 k1 e0
          exact LegalQ.mk (ys := ys) hleg rfl (ho.ext hE2) (hE.trans hE2)
        | true =>
          have e0' := of_decide_eq_true e0
          rw [if_neg (by omega)] at hleg
          first | refine go2 k1 e0 ?_ | exact fin2 k1 e0
          refine xelem_op (hl.ext (hE.trans hE2)) rfl hlt' fun b5 o5 hc5 => ?_
          rw [hx] at hc5
          cases rp : decide (x.rs = -1) with
          | true =>
            rw [if_pos (.inr (of_decide_eq_true rp))] at hleg
            first | refine go3 hc5.op3 rp hw ?_ | exact fin3 hc5.op3 rp hw
            exact ⟨(i + 1, zs, a2, c2), rfl, ⟨hlt', by dsimp only; omega, hleg, ho2.lower hE.next, hE.trans hE2⟩, by dsimp only; omega⟩
          | false =>
            first | refine go2 hc5.op3 rp ?_ | exact fin2 hc5.op3 rp
            refine xelem_op (hl.ext (hE.trans hE2)) rfl hlt' fun b6 o6 hc6 => ?_
            rw [hx] at hc6
            cases rr : decide (x.rs = r) with
            | true =>
              rw [if_pos (.inl (of_decide_eq_true rr))] at hleg
              first | refine go4 hc6.op3 rp rr hw ?_ | exact fin4 hc6.op3 rp rr hw
              exact ⟨(i + 1, zs, a2, c2), rfl, ⟨hlt', by dsimp only; omega, hleg, ho2.lower hE.next, hE.trans hE2⟩, by dsimp only; omega⟩
            | false =>
              rw [if_neg (fun h => h.elim (of_decide_eq_false rr) (of_decide_eq_false rp))] at hleg
              first | refine go3 hc6.op3 rp rr ?_ | exact fin3 hc6.op3 rp rr
              exact LegalQ.mk (ys := ys) hleg rfl (ho.ext hE2) (hE.trans hE2)
    | false =>
      have d2' := of_decide_eq_false d2
      first | refine go1 d2 ?_ | exact fin1 d2
      have hn : ¬ (x.rs = 2 ∧ x.kd = 1 ∧ (e = 0 ∨ e = 2)) := by omega
      rw [if_neg hn] at hleg
      cases e0 : decide (e = 0) with
      | false =>
        have e0' := of_decide_eq_false e0
        rw [if_pos e0'] at hleg
        first | refine go2 d2 e0 ?_ | exact fin2 d2 e0
        exact LegalQ.mk (ys := ys) hleg rfl (ho.ext hE2) (hE.trans hE2)
      | true =>
        have e0' := of_decide_eq_true e0
        rw [if_neg (by omega)] at hleg
        first | refine go2 d2 e0 ?_ | exact fin2 d2 e0
        refine xelem_op (hl.ext (hE.trans hE2)) rfl hlt' fun b5 o5 hc5 => ?_
        rw [hx] at hc5
        cases rp : decide (x.rs = -1) with
        | true =>
          rw [if_pos (.inr (of_decide_eq_true rp))] at hleg
          first | refine go3 hc5.op3 rp hw ?_ | exact fin3 hc5.op3 rp hw
          exact ⟨(i + 1, zs, a2, c2), rfl, ⟨hlt', by dsimp only; omega, hleg, ho2.lower hE.next, hE.trans hE2⟩, by dsimp only; omega⟩
        | false =>
          first | refine go2 hc5.op3 rp ?_ | exact fin2 hc5.op3 rp
          refine xelem_op (hl.ext (hE.trans hE2)) rfl hlt' fun b6 o6 hc6 => ?_
          rw [hx] at hc6
          cases rr : decide (x.rs = r) with
          | true =>
            rw [if_pos (.inl (of_decide_eq_true rr))] at hleg
            first | refine go4 hc6.op3 rp rr hw ?_ | exact fin4 hc6.op3 rp rr hw
            exact ⟨(i + 1, zs, a2, c2), rfl, ⟨hlt', by dsimp only; omega, hleg, ho2.lower hE.next, hE.trans hE2⟩, by dsimp only; omega⟩
          | false =>
            rw [if_neg (fun h => h.elim (of_decide_eq_false rr) (of_decide_eq_false rp))] at hleg
            first | refine go3 hc6.op3 rp rr ?_ | exact fin3 hc6.op3 rp rr
            exact LegalQ.mk (ys := ys) hleg rfl (ho.ext hE2) (hE.trans hE2)
  · have hge' : i = l.length := by have := of_decide_eq_false hge; omega
    subst hge'
    first | refine go ?_ | exact fin
    exact LegalQ.mk (ys := ys) (by rw [hleg, List.drop_length]; rfl) rfl ho hE

end Go.Proofs.YtmknkpcdfkpobaaA
