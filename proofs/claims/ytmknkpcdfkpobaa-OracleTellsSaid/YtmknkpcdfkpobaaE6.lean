/- The functions of chapter 4, told of slices that no one will write any more. -/
import Derived.Test.YtmknkpcdfkpobaaF1
set_option linter.unusedVariables false
set_option linter.unusedSimpArgs false
namespace Go.Proofs.YtmknkpcdfkpobaaA
open Go.RowKit

/-- A slice of ints, of operations, of three numbers each. -/
abbrev FI (xs : List Int) : Value := FS (xs.map (.int .i64)) xs.length
abbrev FO (l : List OpV) : Value := FS (l.flatMap opCells) l.length
abbrev F3 (l : List T3) : Value := FS (l.flatMap t3Cells) l.length

theorem XC.p {P : Program} {f : FuncId} {args : List Value} {H : AH} {K : Value → AH → Prop} {t : Tag K} {u : Value} (h : ACalls P f args H (fun v H' => v = u ∧ H' = H)) (k : K u H) : XC P f args H K t :=
  XC.mk' h fun v H' ⟨h1, h2⟩ => by subst h1; subst h2; exact k

theorem ints_noId (xs : List Int) : (xs.map (Value.int .i64)).all noId = true := by
  rw [List.all_eq_true]; intro v hv; obtain ⟨x, _, rfl⟩ := List.mem_map.1 hv; rfl
theorem ops_noId (l : List OpV) : (l.flatMap opCells).all noId = true := by
  rw [List.all_eq_true]; intro v hv; obtain ⟨x, _, hx⟩ := List.mem_flatMap.1 hv
  simp only [opCells, List.mem_cons, List.not_mem_nil, or_false] at hx
  rcases hx with rfl | rfl | rfl | rfl | rfl | rfl <;> rfl

/-- What a function comes to is a value without names, if its slices are frozen. -/
theorem ACalls.frz1 {P : Program} {f : FuncId} {args : List Value} {H : AH} {Q : Value → AH → Prop} {v2 : Value} (h : ACalls P f args H Q)
    (hq : ∀ v H1, Q v H1 → Ext H H1 ∧ ∃ L : List FR, FRs H1 H.next L ∧ (Cv L v v2 ∨ ∃ l l2, v = .tuple l.toArray ∧ v2 = .tuple l2.toArray ∧ CvL L l l2)) : ACalls P f args H (fun v H' => v = v2 ∧ H' = H) :=
  h.frz (F := fun v => v = v2) fun v H1 hv => let ⟨a, L, b, c⟩ := hq v H1 hv; ⟨a, L, b, v2, rfl, c⟩

theorem FRs.one {H : AH} {lo sz : Nat} {cs : List Value} {a : Option Addr} {n cap : Nat} (ho : Own H lo sz cs a n cap) (hn : cs.all noId = true) : FRs H lo [⟨sz, cs, a, n, cap⟩] :=
  ⟨⟨ho, hn⟩, fun s hs => (by cases hs), trivial⟩

theorem Cv.id {L : List FR} {v : Value} (h : noId v = true) : Cv L v v := .inl ⟨h, rfl⟩
theorem Cv.hd {L : List FR} {r : FR} : Cv (r :: L) (.slice r.a r.n r.cap) (FS r.cs r.n) := .inr ⟨r, by simp, rfl, rfl⟩

/-- Of a function that only looks. -/
theorem pureQ {P : Program} {f : FuncId} {args : List Value} {H : AH} {u : Value} {H1 : AH} (hn : noId u = true) (hE : Ext H H1) (h : ACalls P f args H1 (fun v H' => v = u ∧ H' = H1)) : ACalls P f args H1 (fun v H' => v = u ∧ Ext H H') :=
  h.mono fun v H' ⟨a, b⟩ => ⟨a, by rw [b]; exact hE⟩

theorem ACalls.look {P : Program} {f : FuncId} {args : List Value} {H : AH} {u : Value} (hn : noId u = true) (h : ACalls P f args H (fun v H' => v = u ∧ Ext H H')) : ACalls P f args H (fun v H' => v = u ∧ H' = H) :=
  h.frz1 fun v H1 ⟨h1, h2⟩ => ⟨h2, [], trivial, .inl (by subst h1; exact Cv.id hn)⟩

theorem oRightF (xs : List Int) (H : AH) (hb : xs.length ≤ 9223372036854775807) : ACalls Try.prog 11 [FI xs] H (fun v H' => v = .bool (Right xs) ∧ H' = H) :=
  ACalls.look rfl <| ACalls.thaw 1 [] [] (by simp) (by decide) fun a cap H1 hE hs _ => pureQ rfl hE (oRight_spec xs a cap H1 hs hb)
theorem rRightF (xs : List Int) (H : AH) (hb : xs.length ≤ 9223372036854775807) : ACalls Try.prog 12 [FI xs] H (fun v H' => v = .bool (Right xs) ∧ H' = H) :=
  ACalls.look rfl <| ACalls.thaw 1 [] [] (by simp) (by decide) fun a cap H1 hE hs _ => pureQ rfl hE (rRight_spec xs a cap H1 hs hb)
theorem hasF (xs : List Int) (k : Int) (H : AH) (hb : xs.length ≤ 9223372036854775807) : ACalls Try.prog 21 [FI xs, .int .i64 k] H (fun v H' => v = .bool (xs.contains k) ∧ H' = H) :=
  ACalls.look rfl <| ACalls.thaw 1 [] [.int .i64 k] (by simp) (by decide) fun a cap H1 hE hs _ => pureQ rfl hE (has_spec xs k a cap H1 hs hb)
theorem intsF (xs ys : List Int) (H : AH) (hb : xs.length ≤ 9223372036854775807) (hb2 : ys.length ≤ 9223372036854775807) : ACalls Try.prog 16 [FI xs, FI ys] H (fun v H' => v = .bool (decide (xs = ys)) ∧ H' = H) :=
  ACalls.look rfl <| ACalls.thaw 1 [] [FI ys] (by simp) (by decide) fun a cap H1 hE hs _ => ACalls.thaw 1 [.slice a xs.length cap] [] (by simp) (by decide) fun b cb H2 hE2 hs2 _ =>
    pureQ rfl (hE.trans hE2) (ints_spec xs ys a b cap cb H2 (hs.ext hE2) hs2 hb hb2)

abbrev DoF (xs : List Int) (kind k : Int) : Value := .tuple [FI (doR xs kind k).1, .int .i64 (doR xs kind k).2.1, .int .i64 (doR xs kind k).2.2].toArray

theorem DoQ.frz {P : Program} {f : FuncId} {xs : List Int} {kind k : Int} {H : AH} (h : ∀ a cap H1, Ext H H1 → IntsR H1 xs a cap → ACalls P f [.slice a xs.length cap, .int .i64 kind, .int .i64 k] H1 (DoQ xs kind k H1)) :
    ACalls P f [FI xs, .int .i64 kind, .int .i64 k] H (fun v H' => v = DoF xs kind k ∧ H' = H) := by
  refine ACalls.frz1 (Q := fun v H' => ∃ H1, Ext H H1 ∧ DoQ xs kind k H1 v H') (ACalls.thaw 1 [] [.int .i64 kind, .int .i64 k] (by simp) (by decide) fun a cap H1 hE hs _ => (h a cap H1 hE hs).mono fun v H' hq => ⟨H1, hE, hq⟩) ?_
  rintro v H' ⟨H1, hE, a', cap', rfl, ho, hE2⟩
  exact ⟨hE.trans hE2, _, FRs.one (ho.lower hE.next) (ints_noId _), .inr ⟨_, _, rfl, rfl, Cv.hd, Cv.id rfl, Cv.id rfl, trivial⟩⟩

theorem oDoF (xs : List Int) (kind k : Int) (H : AH) (hb : xs.length ≤ 1000000) : ACalls Try.prog 14 [FI xs, .int .i64 kind, .int .i64 k] H (fun v H' => v = DoF xs kind k ∧ H' = H) :=
  DoQ.frz fun a cap H1 _ hs => oDo_spec xs kind k a cap H1 hs hb
theorem rDoF (xs : List Int) (kind k : Int) (H : AH) (hb : xs.length ≤ 1000000) : ACalls Try.prog 15 [FI xs, .int .i64 kind, .int .i64 k] H (fun v H' => v = DoF xs kind k ∧ H' = H) :=
  DoQ.frz fun a cap H1 _ hs => rDo_spec xs kind k a cap H1 hs hb

abbrev LegalF (xs : List Int) (l : List OpV) : Value := .tuple [FI (legalP xs l).1, .bool (legalP xs l).2].toArray

theorem LegalQ.frz {P : Program} {f : FuncId} {xs : List Int} {l : List OpV} {H : AH} (h : ∀ a cap b cb H1, IntsR H1 xs a cap → OpsR H1 l b cb → ACalls P f [.slice a xs.length cap, .slice b l.length cb] H1 (LegalQ xs l H1)) :
    ACalls P f [FI xs, FO l] H (fun v H' => v = LegalF xs l ∧ H' = H) := by
  refine ACalls.frz1 (Q := fun v H' => ∃ H1, Ext H H1 ∧ LegalQ xs l H1 v H') (ACalls.thaw 1 [] [FO l] (by simp) (by decide) fun a cap H1 hE hs _ =>
    ACalls.thaw 6 [.slice a xs.length cap] [] (flat_length opCells 6 (fun _ => rfl) l) (by decide) fun b cb H2 hE2 hs2 _ => (h a cap b cb H2 (hs.ext hE2) hs2).mono fun v H' hq => ⟨H2, hE.trans hE2, hq⟩) ?_
  rintro v H' ⟨H1, hE, a', cap', rfl, ho, hE2⟩
  exact ⟨hE.trans hE2, _, FRs.one (ho.lower hE.next) (ints_noId _), .inr ⟨_, _, rfl, rfl, Cv.hd, Cv.id rfl, trivial⟩⟩

theorem oLegalF (xs : List Int) (l : List OpV) (H : AH) (hb : xs.length ≤ 1000) (hb2 : l.length ≤ 1000) : ACalls Try.prog 19 [FI xs, FO l] H (fun v H' => v = LegalF xs l ∧ H' = H) :=
  LegalQ.frz fun a cap b cb H1 h1 h2 => oLegal_spec xs l a b cap cb H1 h1 h2 hb hb2
theorem rLegalF (xs : List Int) (l : List OpV) (H : AH) (hb : xs.length ≤ 1000) (hb2 : l.length ≤ 1000) : ACalls Try.prog 20 [FI xs, FO l] H (fun v H' => v = LegalF xs l ∧ H' = H) :=
  LegalQ.frz fun a cap b cb H1 h1 h2 => rLegal_spec xs l a b cap cb H1 h1 h2 hb hb2

theorem keysF (raw : List Int) (H : AH) (hr : ∀ x ∈ raw, I64 x) (hb : raw.length ≤ 9223372036854775807) : ACalls Try.prog 10 [FI raw] H (fun v H' => v = FI (keysP raw) ∧ H' = H) := by
  refine ACalls.frz1 (Q := fun v H' => ∃ H1, Ext H H1 ∧ ∃ a' cap', v = .slice a' (keysP raw).length cap' ∧ Own H' H1.next 1 ((keysP raw).map (.int .i64)) a' (keysP raw).length cap' ∧ Ext H1 H')
    (ACalls.thaw 1 [] [] (by simp) (by decide) fun a cap H1 hE hs _ => (keys_spec raw a cap H1 hs hr hb).mono fun v H' hq => ⟨H1, hE, hq⟩) ?_
  rintro v H' ⟨H1, hE, a', cap', rfl, ho, hE2⟩
  exact ⟨hE.trans hE2, _, FRs.one (ho.lower hE.next) (ints_noId _), .inl Cv.hd⟩

theorem opsF (raw : List T3) (H : AH) (hr : ∀ x ∈ raw, x.I64) (hb : raw.length ≤ 9223372036854775807) : ACalls Try.prog 17 [F3 raw] H (fun v H' => v = FO (opsP raw) ∧ H' = H) := by
  refine ACalls.frz1 (Q := fun v H' => ∃ H1, Ext H H1 ∧ ∃ a' cap', v = .slice a' (opsP raw).length cap' ∧ Own H' H1.next 6 ((opsP raw).flatMap opCells) a' (opsP raw).length cap' ∧ Ext H1 H')
    (ACalls.thaw 3 [] [] (flat_length t3Cells 3 (fun _ => rfl) raw) (by decide) fun a cap H1 hE hs _ => (ops_spec raw a cap H1 hs hr hb).mono fun v H' hq => ⟨H1, hE, hq⟩) ?_
  rintro v H' ⟨H1, hE, a', cap', rfl, ho, hE2⟩
  exact ⟨hE.trans hE2, _, FRs.one (ho.lower hE.next) (ops_noId _), .inl Cv.hd⟩

theorem toldAt_len (raw : List T3) (L0 : List OpV) (s0 : List Int) : ∀ i, (toldAt raw L0 s0 i).1.length = L0.length
  | 0 => rfl
  | i + 1 => by
    simp only [toldAt]
    split
    · rw [List.length_set]; exact toldAt_len raw L0 s0 i
    · exact toldAt_len raw L0 s0 i

theorem toldP_len (raw : List T3) (s0 : List Int) : (toldP raw s0).length ≤ 40 := by
  unfold toldP
  rw [toldAt_len, opsP, opsAt_length]; omega

theorem toldF (s0 : List Int) (raw : List T3) (H : AH) (hr : ∀ x ∈ raw, x.I64) (hb : raw.length ≤ 9223372036854775807) (hsb : s0.length ≤ 1000) :
    ACalls Try.prog 18 [FI s0, F3 raw] H (fun v H' => v = FO (toldP raw s0) ∧ H' = H) := by
  refine ACalls.frz1 (Q := fun v H' => ∃ H1, Ext H H1 ∧ ∃ a' cap', v = .slice a' (toldP raw s0).length cap' ∧ (toldP raw s0).length ≤ 40 ∧ Own H' H1.next 6 ((toldP raw s0).flatMap opCells) a' (toldP raw s0).length cap' ∧ Ext H1 H')
    (ACalls.thaw 1 [] [F3 raw] (by simp) (by decide) fun a cap H1 hE hs ha => ACalls.thaw 3 [.slice a s0.length cap] [] (flat_length t3Cells 3 (fun _ => rfl) raw) (by decide) fun b cb H2 hE2 hs2 hb2 =>
      (told_spec s0 raw a b cap cb H2 (hs.ext hE2) (fun b o sp e => Nat.lt_of_lt_of_le (ha b o sp e).2 hE2.next) hs2 hr hb hsb).mono fun v H' hq => ⟨H2, hE.trans hE2, hq⟩) ?_
  rintro v H' ⟨H1, hE, a', cap', rfl, _, ho, hE2⟩
  exact ⟨hE.trans hE2, _, FRs.one (ho.lower hE.next) (ops_noId _), .inl Cv.hd⟩

end Go.Proofs.YtmknkpcdfkpobaaA
