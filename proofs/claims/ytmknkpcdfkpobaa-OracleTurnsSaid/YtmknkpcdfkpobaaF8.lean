/- OracleTurns: what the law computes, and that it answers true. -/
import Derived.Test.YtmknkpcdfkpobaaE5
import Derived.Test.YtmknkpcdfkpobaaF4
set_option linter.unusedVariables false
set_option linter.unusedSimpArgs false
namespace Go.Proofs.YtmknkpcdfkpobaaA
open Go.RowKit

/-- The operations of raw numbers, as one's own. -/
theorem opsO (raw : List T3) (H : AH) (hr : ∀ x ∈ raw, x.I64) (hb : raw.length ≤ 9223372036854775807) :
    ACalls Try.prog 17 [F3 raw] H (fun v H' => ∃ a' cap', v = .slice a' (opsP raw).length cap' ∧ Own H' H.next 6 ((opsP raw).flatMap opCells) a' (opsP raw).length cap' ∧ Ext H H') :=
  ACalls.thaw 3 [] [] (flat_length t3Cells 3 (fun _ => rfl) raw) (by decide) fun a cap H1 hE hs _ => (ops_spec raw a cap H1 hs hr hb).mono fun v H' ⟨a', cap', h1, h2, h3⟩ => ⟨a', cap', h1, h2.lower hE.next, hE.trans h3⟩

def bools (l : List Bool) : List Value := l.map .bool

theorem bools_set (l : List Bool) (k : Nat) (b : Bool) (h : k < l.length) : splice (bools l) k [.bool b] = bools (l.set k b) := by
  unfold splice bools
  rw [← List.map_take, ← List.map_drop, List.set_eq_take_append_cons_drop, if_pos h]
  simp

theorem bools_load {H : AH} {b : Nat} {l : List Bool} {rw : Bool} (hb : H.blk b = some (.cells (bools l) rw)) {k : Nat} (h : k < l.length) : rload1 H b k = some (.bool (l.getD k false)) := by
  unfold rload1
  rw [hb]
  simp [bools, List.getD, h]

/-- Ops are of small keys, and of kinds that there are. -/
theorem opOf_rng (raw : List T3) (i : Nat) : 1 ≤ (opOf raw i).kd ∧ (opOf raw i).kd ≤ 3 ∧ 0 ≤ (opOf raw i).ky ∧ (opOf raw i).ky < 20 := by
  have h1 := pickP_range (raw.getD i t30).a 3 (by decide)
  have h2 := pickP_range (raw.getD i t30).b 20 (by decide)
  exact ⟨by simp only [opOf]; omega, by simp only [opOf]; omega, h2.1, h2.2⟩

theorem opsP_rng (raw : List T3) : ∀ x ∈ opsP raw, 1 ≤ x.kd ∧ x.kd ≤ 3 ∧ 0 ≤ x.ky ∧ x.ky < 20 := by
  intro x hx
  obtain ⟨i, _, rfl⟩ := List.mem_map.1 hx
  exact opOf_rng raw i

theorem op_load {H : AH} {b : Nat} {L : List OpV} {spare : List Value} {rw : Bool} (hb : H.blk b = some (.cells (L.flatMap opCells ++ spare) rw)) {i : Nat} (hi : i < L.length) (k : Nat) (hk : k < 6) :
    rload1 H b (i * 6 + k) = (opCells (L.getD i op0))[k]? := by
  unfold rload1
  rw [hb]
  have hl := flat_length opCells 6 (fun _ => rfl) L
  have hlt : i * 6 + k < (L.flatMap opCells).length := by omega
  show (L.flatMap opCells ++ spare)[i * 6 + k]? = _
  rw [List.getElem?_append, if_pos hlt]
  have := flat_drop opCells 6 (fun _ => rfl) op0 L i hi
  rw [← this, List.getElem?_take, if_pos hk, List.getElem?_drop]


/-- A block of one's own, that holds something; and what is one's own when it was written. -/
theorem Own.blk {H : AH} {lo sz : Nat} {cs : List Value} {a : Option Addr} {n cap : Nat} (h : Own H lo sz cs a n cap) (hn : 0 < n) :
    ∃ b spare, a = some ⟨b, 0, some 0⟩ ∧ lo ≤ b ∧ b < H.next ∧ H.blk b = some (.cells (cs ++ spare) true) ∧ cs.length = n * sz ∧
      ∀ (H' : AH) (cs' : List Value), H'.blk b = some (.cells (cs' ++ spare) true) → cs'.length = cs.length → H.next ≤ H'.next → Own H' lo sz cs' a n cap := by
  rcases h with ⟨_, h, _⟩ | ⟨b, spare, rfl, h1, h2, h3, h4, h5⟩
  · omega
  · exact ⟨b, spare, rfl, h1, h2, h3, h4, fun H' cs' g1 g2 g3 => .inr ⟨b, spare, rfl, h1, Nat.lt_of_lt_of_le h2 g3, g1, g2.trans h4, h5⟩⟩

theorem Own.set {H : AH} {lo sz : Nat} {cs : List Value} {a : Option Addr} {n cap : Nat} (h : Own H lo sz cs a n cap) {nb : Nat} (o : AObj) (hne : ∀ b o sp, a = some ⟨b, o, sp⟩ → b ≠ nb) : Own (H.set nb o) lo sz cs a n cap := by
  rcases h with h | ⟨b, spare, rfl, h1, h2, h3, h4⟩
  · exact .inl h
  · exact .inr ⟨b, spare, rfl, h1, h2, by rw [AH.blk_set_ne _ _ (hne _ _ _ rfl)]; exact h3, h4⟩

theorem flat_set' (L : List OpV) (i : Nat) (r : Int) (spare : List Value) (h : i < L.length) : splice (L.flatMap opCells ++ spare) (i * 6 + 3) [.int .i64 r] = (L.set i { L.getD i op0 with rs := r }).flatMap opCells ++ spare :=
  flat_set L i r spare h

set_option maxHeartbeats 4000000 in
set_option maxRecDepth 20000 in
theorem turnsF (raw : List Int) (ops : List T3) (H : AH) (hr : ∀ x ∈ raw, I64 x) (hb : raw.length ≤ 9223372036854775807) (hor : ∀ x ∈ ops, x.I64) (hob : ops.length ≤ 9223372036854775807) :
    ACalls Try.prog 5 [FI raw, F3 ops] H (fun v H' => v = .bool true) := by
  refine enter5 ?_
  unfold ac5
  refine go ?_
  refine XC.p (awakeF H) ?_
  refine go ?_
  refine XC.p (keysF raw H hr hb) ?_
  have hs := keysP_ks raw
  have hsl := keysP_len raw
  generalize keysP raw = s at hs hsl ⊢
  refine go ?_
  refine XC.mk' (opsO ops H hor hob) ?_
  rintro v H1 ⟨a1, cc, rfl, ho, hE⟩
  have hLr := opsP_rng ops
  have hL40 : (opsP ops).length ≤ 40 := by rw [opsP, opsAt_length]; omega
  generalize opsP ops = L0 at ho hLr hL40 ⊢
  refine go ?_
  refine XS.mk' (by decide) ?_
  refine go ?_
  have hz : [Value.bool false, Value.bool false, Value.bool false, Value.bool false, Value.bool false, Value.bool false, Value.bool false, Value.bool false, Value.bool false, Value.bool false, Value.bool false, Value.bool false, Value.bool false, Value.bool false, Value.bool false, Value.bool false, Value.bool false, Value.bool false, Value.bool false, Value.bool false] = bools (List.replicate 20 false) := rfl
  rw [hz]
  have ho1 := ho.ext (Ext.alloc H1 (.cells (bools (List.replicate 20 false)) true))
  have hne : ∀ b o sp, a1 = some ⟨b, o, sp⟩ → b ≠ H1.next := fun b o sp e => Nat.ne_of_lt (ho.lt e)
  have hblk : (H1.alloc (.cells (bools (List.replicate 20 false)) true)).blk H1.next = some (.cells (bools (List.replicate 20 false)) true) := AH.blk_alloc _ _
  generalize hH2 : H1.alloc (.cells (bools (List.replicate 20 false)) true) = H2 at ho1 hblk
  generalize hnb : H1.next = nb at hne hblk
  have hlo : H.next ≤ nb := by rw [← hnb]; exact hE.next
  refine XL.lp (β := Nat × List Bool) (fun x j => [j 0, j 1, j 2, j 3, j 4, .bool true, FI s, .slice a1 L0.length cc, .slice (some ⟨nb, 0, some 0⟩) 20 20, .int .i64 x.1, j 10, j 11, j 12, j 13, j 14, j 15, j 16, j 17, j 18, j 19, j 20, j 21, j 22, j 23, j 24, j 25, j 26, j 27, j 28, j 29, j 30, j 31, j 32, j 33, j 34, j 35, j 36, j 37, j 38, j 39, j 40, j 41, j 42, j 43, j 44, j 45, j 46, j 47, j 48, j 49, j 50, j 51, j 52, j 53, j 54, j 55, j 56, j 57, j 58, j 59, j 60, j 61, j 62, j 63, j 64, j 65, j 66, j 67, j 68, j 69, j 70, j 71, j 72, j 73, j 74, j 75, j 76, j 77, j 78, j 79, j 80, j 81, j 82, j 83, j 84, j 85, j 86, j 87, j 88, j 89, j 90, j 91, j 92, j 93, j 94, j 95, j 96, j 97, j 98, j 99, j 100, j 101, j 102, j 103, j 104, j 105, j 106, j 107, j 108, j 109, j 110, j 111, j 112, j 113, j 114, j 115, j 116, j 117, j 118, j 119, j 120, j 121, j 122, j 123, j 124, j 125, j 126, j 127, j 128, j 129, j 130, j 131, j 132, j 133, j 134, j 135, j 136, j 137, j 138, j 139, j 140, j 141, j 142, j 143, j 144, j 145, j 146, j 147, j 148, j 149, j 150, j 151, j 152, j 153, j 154, j 155, j 156, j 157, j 158, j 159, j 160, j 161, j 162, j 163, j 164, j 165])
    (fun x H' => x.1 ≤ s.length ∧ x.2.length = 20 ∧ (∀ k : Nat, k < 20 → x.2.getD k false = (s.take x.1).contains (k : Int)) ∧ Own H' H.next 6 (L0.flatMap opCells) a1 L0.length cc ∧ H'.blk nb = some (.cells (bools x.2) true))
    (fun x => s.length - x.1) (0, List.replicate 20 false) rfl ⟨Nat.zero_le _, rfl, fun k hk => by rw [show (List.replicate 20 false).getD k false = false by simp only [List.getD, List.getElem?_replicate, if_pos hk, Option.getD_some]]; rfl, ho1, hblk⟩ ?_
  · rintro ⟨i, hs'⟩ j H' ⟨hi, hlen, hmem, ho', hbk⟩
    dsimp only at hi hlen hmem ho' hbk ⊢
    refine go ?_
    refine XB.mk' (fun hlt => ?_) (fun hge => ?_)
    · have hlt' : i < s.length := by simpa using hlt
      have hrng := hs.rng _ (getD_mem hlt')
      obtain ⟨k, hk⟩ : ∃ k : Nat, s.getD i 0 = k := ⟨(s.getD i 0).toNat, by omega⟩
      have hk20 : k < 20 := by omega
      have hw := wrap_succ hlt' (by omega)
      refine go4 hlt hlt' hk hk20 ?_
      refine xstore.mk' hbk rfl rfl (by simp [bools]; omega) ?_
      rw [cellsL_bool, bools_set hs' k true (by omega)]
      refine go1 hw ?_
      refine ⟨(i + 1, hs'.set k true), rfl, ⟨hlt', by simp [hlen], fun n hn => ?_, ho'.set _ hne, AH.blk_set _ _ _⟩, by dsimp only; omega⟩
      dsimp only
      have ht : s.take (i + 1) = s.take i ++ [(k : Int)] := by rw [List.take_succ_eq_append_getElem hlt', ← hk]; simp [List.getD, hlt']
      rw [ht, Bool.eq_iff_iff, List.contains_iff_mem, List.mem_append, List.mem_singleton]
      by_cases e : n = k
      · subst e
        simp [List.getD, List.getElem?_set, hlen, hk20]
      · have e1 : (hs'.set k true).getD n false = hs'.getD n false := by
          simp only [List.getD, List.getElem?_set_ne (Ne.symm e)]
        rw [e1, hmem n hn, List.contains_iff_mem]
        exact ⟨.inl, fun h => h.resolve_right (by omega)⟩
    · have hge' : i = s.length := by have := of_decide_eq_false hge; omega
      subst hge'
      rw [List.take_length] at hmem
      refine go1 hge ?_
      refine XL.lp (β := Nat × List Int × List OpV × List Bool) (fun x j => [j 0, j 1, j 2, j 3, j 4, .bool true, FI s, .slice a1 x.2.2.1.length cc, .slice (some ⟨nb, 0, some 0⟩) 20 20, j 9, FI x.2.1, .int .i64 x.1, j 12, j 13, j 14, j 15, j 16, j 17, j 18, j 19, j 20, j 21, j 22, j 23, j 24, j 25, j 26, j 27, j 28, j 29, j 30, j 31, j 32, j 33, j 34, j 35, j 36, j 37, j 38, j 39, j 40, j 41, j 42, j 43, j 44, j 45, j 46, j 47, j 48, j 49, j 50, j 51, j 52, j 53, j 54, j 55, j 56, j 57, j 58, j 59, j 60, j 61, j 62, j 63, j 64, j 65, j 66, j 67, j 68, j 69, j 70, j 71, j 72, j 73, j 74, j 75, j 76, j 77, j 78, j 79, j 80, j 81, j 82, j 83, j 84, j 85, j 86, j 87, j 88, j 89, j 90, j 91, j 92, j 93, j 94, j 95, j 96, j 97, j 98, j 99, j 100, j 101, j 102, j 103, j 104, j 105, j 106, j 107, j 108, j 109, j 110, j 111, j 112, j 113, j 114, j 115, j 116, j 117, j 118, j 119, j 120, j 121, j 122, j 123, j 124, j 125, j 126, j 127, j 128, j 129, j 130, j 131, j 132, j 133, j 134, j 135, j 136, j 137, j 138, j 139, j 140, j 141, j 142, j 143, j 144, j 145, j 146, j 147, j 148, j 149, j 150, j 151, j 152, j 153, j 154, j 155, j 156, j 157, j 158, j 159, j 160, j 161, j 162, j 163, j 164, j 165])
        (fun x H' => x.1 ≤ x.2.2.1.length ∧ x.2.2.1.length = L0.length ∧ KS 20 x.2.1 ∧ (∀ y ∈ x.2.2.1, 1 ≤ y.kd ∧ y.kd ≤ 3 ∧ 0 ≤ y.ky ∧ y.ky < 20) ∧ x.2.2.2.length = 20 ∧ (∀ k : Nat, k < 20 → x.2.2.2.getD k false = x.2.1.contains (k : Int)) ∧
          legalP s (x.2.2.1.take x.1) = (x.2.1, true) ∧ Own H' H.next 6 (x.2.2.1.flatMap opCells) a1 x.2.2.1.length cc ∧ H'.blk nb = some (.cells (bools x.2.2.2) true))
        (fun x => L0.length - x.1) (0, s, L0, hs') rfl ⟨Nat.zero_le _, rfl, hs, hLr, hlen, hmem, rfl, ho', hbk⟩ ?_
      clear hbk ho' hmem hlen hs' hge ho1 hblk
      rintro ⟨i, now, L, hs'⟩ j H' ⟨hi, hL, hks, hLr, hlen, hmem, hleg, ho', hbk⟩
      dsimp only at hi hL hks hLr hlen hmem hleg ho' hbk ⊢
      refine go ?_
      refine XB.mk' (fun hlt => ?_) (fun hge => ?_)
      · have hi' : i < L.length := by simpa using hlt
        have hw := wrap_succ hi' (by omega)
        obtain ⟨bl, spare, rfl, hbl1, hbl2, hb3, hb4, hre⟩ := ho'.blk (by omega)
        have hbn : bl ≠ nb := hne _ _ _ rfl
        generalize hx : L.getD i op0 = x
        have hxr := hLr x (by rw [← hx]; simp [List.getD, hi'])
        obtain ⟨k, hk⟩ : ∃ k : Nat, x.ky = k := ⟨x.ky.toNat, by omega⟩
        have hk20 : k < 20 := by omega
        have f1 : rload1 H' bl (i * 6 + 1) = some (.int .i64 x.kd) := by rw [op_load hb3 hi' 1 (by decide), hx]; rfl
        have f2 : rload1 H' bl (i * 6 + 2) = some (.int .i64 k) := by rw [op_load hb3 hi' 2 (by decide), hx, ← hk]; rfl
        have f3 : rload1 H' nb k = some (.bool (hs'.getD k false)) := bools_load hbk (by omega)
        have hkl := hks.len (m := 20)
        refine go5 hlt hi' f1 f2 hk20 ?_
        refine XC.p (oDoF now x.kd k H' (by omega)) ?_
        have hd := hks.do (m := 20) (kind := x.kd) (k := k) (by omega) (by decide) (by omega) (by omega) (by omega) (by omega)
        have hsz := hks.size (m := 20) (kind := x.kd) (k := k) (by omega) (by decide) (by omega) (by omega) (by omega) (by omega)
        have hme := hks.mem (m := 20) (kind := x.kd) (k := k) (by omega) (by decide) (by omega) (by omega) (by omega) (by omega)
        have hlg := legalP_append (L.take i) [{ x with rs := (doR now x.kd k).2.1 }] s
        have hd2 := hd.2.1
        have hr01 := hd.2.2
        have hks' := hd.1
        have hlen1 : (doR now x.kd k).1.length ≤ now.length + 1 ∧ now.length ≤ (doR now x.kd k).1.length + 1 := by
          by_cases q1 : (doR now x.kd k).2.1 = 1 ∧ x.kd = 1
          · have := hsz.1 q1; omega
          · by_cases q2 : (doR now x.kd k).2.1 = 1 ∧ x.kd = 2
            · have := hsz.2.1 q2; omega
            · have := hsz.2.2 q1 q2; omega
        have D : decide ((0 : Int) = 1) = false ∧ decide ((1 : Int) = 0) = false ∧ decide ((1 : Int) = 1) = true ∧ decide ((0 : Int) = 0) = true := by decide
        have hw2 := wrap_i64 (x := (now.length : Int) - 1) (by omega) (by omega)
        have hw3 := wrap_i64 (x := (now.length : Int) + 1) (by omega) (by omega)
        have c1 : decide (((doR now x.kd k).1.length : Int) < (now.length : Int) - 1) = false := decide_eq_false (by omega)
        have c2 : decide ((now.length : Int) + 1 < ((doR now x.kd k).1.length : Int)) = false := decide_eq_false (by omega)
        have hmem2 : ((k : Int) ∈ now) ↔ now.contains (k : Int) = true := List.contains_iff_mem.symm
        have W := And.intro hw2 (And.intro hw3 (And.intro c1 c2))
        rw [hmem k hk20] at f3
        have hLl := flat_length opCells 6 (fun _ => rfl) L
        -- what holds behind the round
        have fin2 : ∀ (R : Int) (hs2 : List Bool) (H3 : AH), (doR now x.kd k).2.1 = R → hs2.length = 20 → (∀ n : Nat, n < 20 → hs2.getD n false = (doR now x.kd k).1.contains (n : Int)) → H3.blk nb = some (.cells (bools hs2) true) →
            H3.blk bl = some (.cells ((L.set i { x with rs := R }).flatMap opCells ++ spare) true) → H'.next ≤ H3.next →
            let y : Nat × List Int × List OpV × List Bool := (i + 1, (doR now x.kd k).1, L.set i { x with rs := R }, hs2)
            (y.1 ≤ y.2.2.1.length ∧ y.2.2.1.length = L0.length ∧ KS 20 y.2.1 ∧ (∀ z ∈ y.2.2.1, 1 ≤ z.kd ∧ z.kd ≤ 3 ∧ 0 ≤ z.ky ∧ z.ky < 20) ∧ y.2.2.2.length = 20 ∧ (∀ k : Nat, k < 20 → y.2.2.2.getD k false = y.2.1.contains (k : Int)) ∧
              legalP s (y.2.2.1.take y.1) = (y.2.1, true) ∧ Own H3 H.next 6 (y.2.2.1.flatMap opCells) (some ⟨bl, 0, some 0⟩) y.2.2.1.length cc ∧ H3.blk nb = some (.cells (bools y.2.2.2) true)) ∧ L0.length - y.1 < L0.length - i := by
          intro R hs2 H3 h1 h2 h3 h4 h5 h6
          rw [h1] at hlg
          dsimp only
          have hlL : (L.set i { x with rs := R }).length = L.length := List.length_set
          have htk : (L.set i { x with rs := R }).take (i + 1) = L.take i ++ [{ x with rs := R }] := by
            rw [List.take_succ_eq_append_getElem (by omega)]
            congr 1
            · rw [List.take_set_of_le (Nat.le_refl _)]
            · simp
          refine ⟨⟨by omega, by omega, hks', fun z hz => ?_, h2, h3, ?_, hre H3 _ (by rw [hlL] at *; exact h5) (by rw [flat_length opCells 6 (fun _ => rfl), hlL, hLl]) h6 |> fun o => by rw [hlL]; exact o, h4⟩, by omega⟩
          · rcases List.mem_or_eq_of_mem_set hz with hz | rfl
            · exact hLr z hz
            · exact hxr
          · rw [htk, hlg, hleg, if_pos rfl]
            show legalP now [{ x with rs := R }] = _
            have hr2 : R = 0 ∨ R = 1 := by rw [← h1]; exact hr01
            rw [legalP_go (x := { x with rs := R }) (by dsimp only; omega) (by dsimp only; rw [hk]; exact hd2) (.inl (by dsimp only; rw [hk]; exact h1.symm)), legalP_nil]
            dsimp only
            rw [hk]
        have hcon : (doR now x.kd k).1.contains (k : Int) = (if x.kd = 1 then true else if x.kd = 2 then false else now.contains (k : Int)) := by
          rw [Bool.eq_iff_iff, List.contains_iff_mem, hme.1]
          by_cases q1 : x.kd = 1
          · simp [q1]
          · by_cases q2 : x.kd = 2
            · simp [q1, q2]
            · simp [q1, q2]
        have hoth : ∀ n : Nat, n ≠ k → (doR now x.kd k).1.contains (n : Int) = now.contains (n : Int) := by
          intro n hn
          rw [Bool.eq_iff_iff, List.contains_iff_mem, List.contains_iff_mem, hme.1]
          have : (n : Int) ≠ (k : Int) := by omega
          simp [this]
        have q123 : x.kd = 1 ∨ x.kd = 2 ∨ x.kd = 3 := by omega
        rcases q123 with q | q | q
        · have E := And.intro (show decide (x.kd = 1) = true from decide_eq_true q) (show decide (x.kd = 2) = false from decide_eq_false (by omega))
          cases hB : now.contains (k : Int) with
          | true =>
            have hr' : (doR now x.kd k).2.1 = 0 := by rw [hme.2, if_pos q, if_pos (hmem2.2 hB)]
            have hcon' : (doR now x.kd k).1.contains (k : Int) = true := by rw [hcon, if_pos q]
            rw [hB] at f3
            have V := And.intro hr' (And.intro f3 hk20)
            refine go9 hd2 W D E hi' f1 f2 V hcon' ?_
            refine xstore.mk' hbk rfl rfl (by simp [bools]; omega) ?_
            rw [cellsL_bool, bools_set hs' k true (by omega)]
            have g1 : (H'.set nb (.cells (bools (hs'.set k true)) true)).blk nb = some (.cells (bools (hs'.set k true)) true) := AH.blk_set _ _ _
            have g2 : (H'.set nb (.cells (bools (hs'.set k true)) true)).blk bl = some (.cells (L.flatMap opCells ++ spare) true) := by rw [AH.blk_set_ne _ _ hbn]; exact hb3
            have gn : H'.next ≤ (H'.set nb (.cells (bools (hs'.set k true)) true)).next := Nat.le_refl _
            generalize H'.set nb (.cells (bools (hs'.set k true)) true) = H3 at g1 g2 gn ⊢
            have f1' : rload1 H3 bl (i * 6 + 1) = some (.int .i64 x.kd) := by rw [op_load g2 hi' 1 (by decide), hx]; rfl
            have f2' : rload1 H3 bl (i * 6 + 2) = some (.int .i64 k) := by rw [op_load g2 hi' 2 (by decide), hx, ← hk]; rfl
            have f3' : rload1 H3 nb k = some (.bool true) := by rw [bools_load g1 (by rw [List.length_set]; omega)]; simp [List.getD, hlen, hk20]
            have V' := And.intro hr' (And.intro f3' hk20)
            refine go8 hd2 W D E hi' f1' f2' V' ?_
            refine XC.p (hasF (doR now x.kd k).1 k H3 (by omega)) ?_
            refine go9 hcon' D E hi' f1' f2' V' hw hd2 ?_
            refine xstore.mk' g2 rfl rfl (by rw [List.length_append, hLl]; omega) ?_
            rw [cellsL_int, flat_set' L i _ spare hi', hx]
            refine go1 hw ?_
            exact ⟨(i + 1, (doR now x.kd k).1, L.set i { x with rs := 0 }, (hs'.set k true)), by simp only [List.length_set], fin2 0 (hs'.set k true) _ hr' (by rw [List.length_set]; exact hlen) (fun n hn => by
              by_cases e : n = k
              · subst e; rw [hcon']; simp [List.getD, hlen, hk20]
              · rw [hoth n e, ← hmem n hn]; simp only [List.getD, List.getElem?_set_ne (Ne.symm e)]) (by rw [AH.blk_set_ne _ _ (Ne.symm hbn)]; exact g1) (AH.blk_set _ _ _) gn⟩
          | false =>
            have hr' : (doR now x.kd k).2.1 = 1 := by rw [hme.2, if_pos q, if_neg (fun h => by rw [hmem2, hB] at h; cases h)]
            have hcon' : (doR now x.kd k).1.contains (k : Int) = true := by rw [hcon, if_pos q]
            rw [hB] at f3
            have V := And.intro hr' (And.intro f3 hk20)
            refine go9 hd2 W D E hi' f1 f2 V hcon' ?_
            refine xstore.mk' hbk rfl rfl (by simp [bools]; omega) ?_
            rw [cellsL_bool, bools_set hs' k true (by omega)]
            have g1 : (H'.set nb (.cells (bools (hs'.set k true)) true)).blk nb = some (.cells (bools (hs'.set k true)) true) := AH.blk_set _ _ _
            have g2 : (H'.set nb (.cells (bools (hs'.set k true)) true)).blk bl = some (.cells (L.flatMap opCells ++ spare) true) := by rw [AH.blk_set_ne _ _ hbn]; exact hb3
            have gn : H'.next ≤ (H'.set nb (.cells (bools (hs'.set k true)) true)).next := Nat.le_refl _
            generalize H'.set nb (.cells (bools (hs'.set k true)) true) = H3 at g1 g2 gn ⊢
            have f1' : rload1 H3 bl (i * 6 + 1) = some (.int .i64 x.kd) := by rw [op_load g2 hi' 1 (by decide), hx]; rfl
            have f2' : rload1 H3 bl (i * 6 + 2) = some (.int .i64 k) := by rw [op_load g2 hi' 2 (by decide), hx, ← hk]; rfl
            have f3' : rload1 H3 nb k = some (.bool true) := by rw [bools_load g1 (by rw [List.length_set]; omega)]; simp [List.getD, hlen, hk20]
            have V' := And.intro hr' (And.intro f3' hk20)
            refine go8 hd2 W D E hi' f1' f2' V' ?_
            refine XC.p (hasF (doR now x.kd k).1 k H3 (by omega)) ?_
            refine go9 hcon' D E hi' f1' f2' V' hw hd2 ?_
            refine xstore.mk' g2 rfl rfl (by rw [List.length_append, hLl]; omega) ?_
            rw [cellsL_int, flat_set' L i _ spare hi', hx]
            refine go1 hw ?_
            exact ⟨(i + 1, (doR now x.kd k).1, L.set i { x with rs := 1 }, (hs'.set k true)), by simp only [List.length_set], fin2 1 (hs'.set k true) _ hr' (by rw [List.length_set]; exact hlen) (fun n hn => by
              by_cases e : n = k
              · subst e; rw [hcon']; simp [List.getD, hlen, hk20]
              · rw [hoth n e, ← hmem n hn]; simp only [List.getD, List.getElem?_set_ne (Ne.symm e)]) (by rw [AH.blk_set_ne _ _ (Ne.symm hbn)]; exact g1) (AH.blk_set _ _ _) gn⟩
        · have E := And.intro (show decide (x.kd = 1) = false from decide_eq_false (by omega)) (show decide (x.kd = 2) = true from decide_eq_true q)
          cases hB : now.contains (k : Int) with
          | true =>
            have hr' : (doR now x.kd k).2.1 = 1 := by rw [hme.2, if_neg (by omega), if_pos (hmem2.2 hB)]
            have hcon' : (doR now x.kd k).1.contains (k : Int) = false := by rw [hcon, if_neg (by omega), if_pos q]
            rw [hB] at f3
            have V := And.intro hr' (And.intro f3 hk20)
            refine go9 hd2 W D E hi' f1 f2 V hcon' ?_
            refine xstore.mk' hbk rfl rfl (by simp [bools]; omega) ?_
            rw [cellsL_bool, bools_set hs' k false (by omega)]
            have g1 : (H'.set nb (.cells (bools (hs'.set k false)) true)).blk nb = some (.cells (bools (hs'.set k false)) true) := AH.blk_set _ _ _
            have g2 : (H'.set nb (.cells (bools (hs'.set k false)) true)).blk bl = some (.cells (L.flatMap opCells ++ spare) true) := by rw [AH.blk_set_ne _ _ hbn]; exact hb3
            have gn : H'.next ≤ (H'.set nb (.cells (bools (hs'.set k false)) true)).next := Nat.le_refl _
            generalize H'.set nb (.cells (bools (hs'.set k false)) true) = H3 at g1 g2 gn ⊢
            have f1' : rload1 H3 bl (i * 6 + 1) = some (.int .i64 x.kd) := by rw [op_load g2 hi' 1 (by decide), hx]; rfl
            have f2' : rload1 H3 bl (i * 6 + 2) = some (.int .i64 k) := by rw [op_load g2 hi' 2 (by decide), hx, ← hk]; rfl
            have f3' : rload1 H3 nb k = some (.bool false) := by rw [bools_load g1 (by rw [List.length_set]; omega)]; simp [List.getD, hlen, hk20]
            have V' := And.intro hr' (And.intro f3' hk20)
            refine go8 hd2 W D E hi' f1' f2' V' ?_
            refine XC.p (hasF (doR now x.kd k).1 k H3 (by omega)) ?_
            refine go9 hcon' D E hi' f1' f2' V' hw hd2 ?_
            refine xstore.mk' g2 rfl rfl (by rw [List.length_append, hLl]; omega) ?_
            rw [cellsL_int, flat_set' L i _ spare hi', hx]
            refine go1 hw ?_
            exact ⟨(i + 1, (doR now x.kd k).1, L.set i { x with rs := 1 }, (hs'.set k false)), by simp only [List.length_set], fin2 1 (hs'.set k false) _ hr' (by rw [List.length_set]; exact hlen) (fun n hn => by
              by_cases e : n = k
              · subst e; rw [hcon']; simp [List.getD, hlen, hk20]
              · rw [hoth n e, ← hmem n hn]; simp only [List.getD, List.getElem?_set_ne (Ne.symm e)]) (by rw [AH.blk_set_ne _ _ (Ne.symm hbn)]; exact g1) (AH.blk_set _ _ _) gn⟩
          | false =>
            have hr' : (doR now x.kd k).2.1 = 0 := by rw [hme.2, if_neg (by omega), if_neg (fun h => by rw [hmem2, hB] at h; cases h)]
            have hcon' : (doR now x.kd k).1.contains (k : Int) = false := by rw [hcon, if_neg (by omega), if_pos q]
            rw [hB] at f3
            have V := And.intro hr' (And.intro f3 hk20)
            refine go9 hd2 W D E hi' f1 f2 V hcon' ?_
            refine xstore.mk' hbk rfl rfl (by simp [bools]; omega) ?_
            rw [cellsL_bool, bools_set hs' k false (by omega)]
            have g1 : (H'.set nb (.cells (bools (hs'.set k false)) true)).blk nb = some (.cells (bools (hs'.set k false)) true) := AH.blk_set _ _ _
            have g2 : (H'.set nb (.cells (bools (hs'.set k false)) true)).blk bl = some (.cells (L.flatMap opCells ++ spare) true) := by rw [AH.blk_set_ne _ _ hbn]; exact hb3
            have gn : H'.next ≤ (H'.set nb (.cells (bools (hs'.set k false)) true)).next := Nat.le_refl _
            generalize H'.set nb (.cells (bools (hs'.set k false)) true) = H3 at g1 g2 gn ⊢
            have f1' : rload1 H3 bl (i * 6 + 1) = some (.int .i64 x.kd) := by rw [op_load g2 hi' 1 (by decide), hx]; rfl
            have f2' : rload1 H3 bl (i * 6 + 2) = some (.int .i64 k) := by rw [op_load g2 hi' 2 (by decide), hx, ← hk]; rfl
            have f3' : rload1 H3 nb k = some (.bool false) := by rw [bools_load g1 (by rw [List.length_set]; omega)]; simp [List.getD, hlen, hk20]
            have V' := And.intro hr' (And.intro f3' hk20)
            refine go8 hd2 W D E hi' f1' f2' V' ?_
            refine XC.p (hasF (doR now x.kd k).1 k H3 (by omega)) ?_
            refine go9 hcon' D E hi' f1' f2' V' hw hd2 ?_
            refine xstore.mk' g2 rfl rfl (by rw [List.length_append, hLl]; omega) ?_
            rw [cellsL_int, flat_set' L i _ spare hi', hx]
            refine go1 hw ?_
            exact ⟨(i + 1, (doR now x.kd k).1, L.set i { x with rs := 0 }, (hs'.set k false)), by simp only [List.length_set], fin2 0 (hs'.set k false) _ hr' (by rw [List.length_set]; exact hlen) (fun n hn => by
              by_cases e : n = k
              · subst e; rw [hcon']; simp [List.getD, hlen, hk20]
              · rw [hoth n e, ← hmem n hn]; simp only [List.getD, List.getElem?_set_ne (Ne.symm e)]) (by rw [AH.blk_set_ne _ _ (Ne.symm hbn)]; exact g1) (AH.blk_set _ _ _) gn⟩
        · have E := And.intro (show decide (x.kd = 1) = false from decide_eq_false (by omega)) (show decide (x.kd = 2) = false from decide_eq_false (by omega))
          cases hB : now.contains (k : Int) with
          | true =>
            have hr' : (doR now x.kd k).2.1 = 1 := by rw [hme.2, if_neg (by omega), if_pos (hmem2.2 hB)]
            have hcon' : (doR now x.kd k).1.contains (k : Int) = true := by rw [hcon, if_neg (by omega), if_neg (by omega), hB]
            rw [hB] at f3
            have V' := And.intro hr' (And.intro f3 hk20)
            refine go8 hd2 W D E hi' f1 f2 V' ?_
            refine XC.p (hasF (doR now x.kd k).1 k H' (by omega)) ?_
            refine go9 hcon' D E hi' f1 f2 V' hw hd2 ?_
            refine xstore.mk' hb3 rfl rfl (by rw [List.length_append, hLl]; omega) ?_
            rw [cellsL_int, flat_set' L i _ spare hi', hx]
            refine go1 hw ?_
            exact ⟨(i + 1, (doR now x.kd k).1, L.set i { x with rs := 1 }, hs'), by simp only [List.length_set], fin2 1 hs' _ hr' hlen (fun n hn => by
              by_cases e : n = k
              · subst e; rw [hcon', hmem n hn, hB]
              · rw [hoth n e, hmem n hn]) (by rw [AH.blk_set_ne _ _ (Ne.symm hbn)]; exact hbk) (AH.blk_set _ _ _) (Nat.le_refl _)⟩
          | false =>
            have hr' : (doR now x.kd k).2.1 = 0 := by rw [hme.2, if_neg (by omega), if_neg (fun h => by rw [hmem2, hB] at h; cases h)]
            have hcon' : (doR now x.kd k).1.contains (k : Int) = false := by rw [hcon, if_neg (by omega), if_neg (by omega), hB]
            rw [hB] at f3
            have V' := And.intro hr' (And.intro f3 hk20)
            refine go8 hd2 W D E hi' f1 f2 V' ?_
            refine XC.p (hasF (doR now x.kd k).1 k H' (by omega)) ?_
            refine go9 hcon' D E hi' f1 f2 V' hw hd2 ?_
            refine xstore.mk' hb3 rfl rfl (by rw [List.length_append, hLl]; omega) ?_
            rw [cellsL_int, flat_set' L i _ spare hi', hx]
            refine go1 hw ?_
            exact ⟨(i + 1, (doR now x.kd k).1, L.set i { x with rs := 0 }, hs'), by simp only [List.length_set], fin2 0 hs' _ hr' hlen (fun n hn => by
              by_cases e : n = k
              · subst e; rw [hcon', hmem n hn, hB]
              · rw [hoth n e, hmem n hn]) (by rw [AH.blk_set_ne _ _ (Ne.symm hbn)]; exact hbk) (AH.blk_set _ _ _) (Nat.le_refl _)⟩
      · have hge' : i = L.length := by have := of_decide_eq_false hge; omega
        rw [hge', List.take_length] at hleg
        refine go1 hge ?_
        have hops := ACalls.frzArg [FI s] [] ho' (ops_noId L) (oLegalF s L (H'.drop a1) (by omega) (by omega))
        refine XC.mk' hops ?_
        rintro v H3 ⟨rfl, rfl⟩
        have l1 : (legalP s L).1 = now := by rw [hleg]
        have l2 : (legalP s L).2 = true := by rw [hleg]
        refine go2 l1 l2 ?_
        have hkl := hks.len (m := 20)
        refine XC.p (intsF now now _ (by omega) (by omega)) ?_
        exact fin1 (show decide (now = now) = true from decide_eq_true rfl)

end Go.Proofs.YtmknkpcdfkpobaaA
