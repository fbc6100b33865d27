/- Sets by their members; operations of unlike keys in either order. -/
import Derived.Test.YtmknkpcdfkpobaaF1
set_option linter.unusedVariables false
set_option linter.unusedSimpArgs false
namespace Go.Proofs.YtmknkpcdfkpobaaA
open Go.RowKit

theorem sorted_ext : ∀ {l m : List Int}, l.Pairwise (· < ·) → m.Pairwise (· < ·) → (∀ x, x ∈ l ↔ x ∈ m) → l = m
  | [], [], _, _, _ => rfl
  | [], y :: m, _, _, h => absurd ((h y).2 List.mem_cons_self) (by simp)
  | x :: l, [], _, _, h => absurd ((h x).1 List.mem_cons_self) (by simp)
  | x :: l, y :: m, hl, hm, h => by
    rw [List.pairwise_cons] at hl hm
    have hxy : x = y := by
      have h1 := (h x).1 List.mem_cons_self
      have h2 := (h y).2 List.mem_cons_self
      rw [List.mem_cons] at h1 h2
      rcases h1 with h1 | h1
      · exact h1
      · rcases h2 with h2 | h2
        · exact h2.symm
        · have := hl.1 y h2; have := hm.1 x h1; omega
    subst hxy
    congr 1
    refine sorted_ext hl.2 hm.2 fun z => ?_
    have hz := h z
    rw [List.mem_cons, List.mem_cons] at hz
    constructor
    · intro hzl
      rcases hz.1 (.inr hzl) with rfl | h
      · exact absurd (hl.1 z hzl) (Int.lt_irrefl z)
      · exact h
    · intro hzm
      rcases hz.2 (.inr hzm) with rfl | h
      · exact absurd (hm.1 z hzm) (Int.lt_irrefl z)
      · exact h

theorem mem_rem {k x : Int} {s : List Int} : x ∈ rem k s ↔ x ∈ s ∧ x ≠ k := by simp [rem]

/-- What is in a set behind an operation; what that comes to. -/
theorem KS.mem {m : Nat} {s : List Int} (h : KS m s) (hl : s.length < 1000) (hm : m ≤ 1000000000000) {kind k : Int} (h1 : 1 ≤ kind) (h3 : kind ≤ 3) (h0 : 0 ≤ k) (hk : k < m) :
    (∀ x, x ∈ (doR s kind k).1 ↔ (kind = 1 ∧ x = k) ∨ (x ∈ s ∧ ¬ (kind = 2 ∧ x = k))) ∧ ((doR s kind k).2.1 = if kind = 1 then (if k ∈ s then 0 else 1) else if k ∈ s then 1 else 0) := by
  rw [doR_ok (h.right (by omega) hm) h1 h3 (keyB_of h0 (by omega))]
  have hmc : s.contains k = true ↔ k ∈ s := List.contains_iff_mem
  by_cases e1 : kind = 1
  · simp only [if_pos e1]
    by_cases hc : k ∈ s
    · rw [if_pos (hmc.2 hc), if_pos hc]
      refine ⟨fun x => ⟨fun hx => .inr ⟨hx, fun h => by omega⟩, fun hx => ?_⟩, rfl⟩
      rcases hx with ⟨_, rfl⟩ | hx
      · exact hc
      · exact hx.1
    · rw [if_neg (fun h => hc (hmc.1 h)), if_neg (by omega), if_neg hc]
      refine ⟨fun x => ?_, rfl⟩
      show x ∈ YtmknkpcdfkpobaaA.ins k s ↔ _
      rw [mem_ins]
      constructor
      · rintro (hx | hx)
        · exact .inl ⟨e1, hx⟩
        · exact .inr ⟨hx, fun h => by omega⟩
      · rintro (hx | hx)
        · exact .inl hx.2
        · exact .inr hx.1
  · simp only [if_neg e1]
    by_cases e2 : kind = 2
    · simp only [if_pos e2]
      by_cases hc : k ∈ s
      · rw [if_pos (hmc.2 hc), if_pos hc]
        refine ⟨fun x => ?_, rfl⟩
        show x ∈ YtmknkpcdfkpobaaA.rem k s ↔ _
        rw [mem_rem]
        constructor
        · rintro ⟨hx, hne⟩
          exact .inr ⟨hx, fun h => hne h.2⟩
        · rintro (hx | hx)
          · exact absurd hx.1 e1
          · exact ⟨hx.1, fun h => hx.2 ⟨e2, h⟩⟩
      · rw [if_neg (fun h => hc (hmc.1 h)), if_neg hc]
        refine ⟨fun x => ⟨fun hx => .inr ⟨hx, fun h => hc (h.2 ▸ hx)⟩, fun hx => ?_⟩, rfl⟩
        rcases hx with hx | hx
        · exact absurd hx.1 e1
        · exact hx.1
    · simp only [if_neg e2]
      refine ⟨fun x => ⟨fun hx => .inr ⟨hx, fun h => e2 h.1⟩, fun hx => ?_⟩, ?_⟩
      · rcases hx with hx | hx
        · exact absurd hx.1 e1
        · exact hx.1
      · by_cases hc : k ∈ s
        · rw [if_pos (hmc.2 hc), if_pos hc]
        · rw [if_neg (fun h => hc (hmc.1 h)), if_neg hc]

/-- Operations of unlike keys, in either order. -/
theorem KS.order {s : List Int} (h : KS 20 s) {ka kb k m : Int} (ha1 : 1 ≤ ka) (ha3 : ka ≤ 3) (hb1 : 1 ≤ kb) (hb3 : kb ≤ 3) (hk0 : 0 ≤ k) (hk : k < 20) (hm0 : 0 ≤ m) (hm : m < 20) (hne : k ≠ m) :
    (doR (doR s ka k).1 kb m).1 = (doR (doR s kb m).1 ka k).1 ∧ (doR s ka k).2.1 = (doR (doR s kb m).1 ka k).2.1 ∧ (doR (doR s ka k).1 kb m).2.1 = (doR s kb m).2.1 := by
  have hl := KS.len (m := 20) h
  have a := KS.do (m := 20) h (by omega) (by decide) ha1 ha3 hk0 hk
  have c := KS.do (m := 20) h (by omega) (by decide) hb1 hb3 hm0 hm
  have la := KS.len (m := 20) a.1
  have lc := KS.len (m := 20) c.1
  have b := KS.do (m := 20) a.1 (by omega) (by decide) hb1 hb3 hm0 hm
  have d := KS.do (m := 20) c.1 (by omega) (by decide) ha1 ha3 hk0 hk
  have ma := KS.mem (m := 20) h (by omega) (by decide) ha1 ha3 hk0 hk
  have mc := KS.mem (m := 20) h (by omega) (by decide) hb1 hb3 hm0 hm
  have mb := KS.mem (m := 20) a.1 (by omega) (by decide) hb1 hb3 hm0 hm
  have md := KS.mem (m := 20) c.1 (by omega) (by decide) ha1 ha3 hk0 hk
  have km : (k ∈ (doR s kb m).1) ↔ k ∈ s := by
    rw [mc.1]
    constructor
    · rintro (h | h)
      · exact absurd h.2 hne
      · exact h.1
    · exact fun h => .inr ⟨h, fun e => hne e.2⟩
  have mk : (m ∈ (doR s ka k).1) ↔ m ∈ s := by
    rw [ma.1]
    constructor
    · rintro (h | h)
      · exact absurd h.2.symm hne
      · exact h.1
    · exact fun h => .inr ⟨h, fun e => hne e.2.symm⟩
  refine ⟨sorted_ext b.1.pw d.1.pw fun x => ?_, ?_, ?_⟩
  · rw [mb.1, md.1, ma.1, mc.1]
    by_cases h1 : x = k
    · by_cases h2 : x = m
      · exact absurd (h1.symm.trans h2) hne
      · simp [h1, h2, hne]
    · by_cases h2 : x = m
      · simp [h1, h2, Ne.symm hne]
      · simp [h1, h2]
  · rw [ma.2, md.2]; simp only [km]
  · rw [mb.2, mc.2]; simp only [mk]

theorem rem_length {s : List Int} {k : Int} (hr : Rises s) (hc : s.contains k = true) : (rem k s).length + 1 = s.length := by
  rw [List.contains_iff_mem] at hc
  obtain ⟨p, hp, he⟩ := mem_getD hc
  rw [rem_at hp he hr]
  simp; omega

/-- How many keys there are behind an operation. -/
theorem KS.size {m : Nat} {s : List Int} (h : KS m s) (hl : s.length < 1000) (hm : m ≤ 1000000000000) {kind k : Int} (h1 : 1 ≤ kind) (h3 : kind ≤ 3) (h0 : 0 ≤ k) (hk : k < m) :
    ((doR s kind k).2.1 = 1 ∧ kind = 1 → (doR s kind k).1.length = s.length + 1) ∧ ((doR s kind k).2.1 = 1 ∧ kind = 2 → (doR s kind k).1.length + 1 = s.length) ∧
    (¬ ((doR s kind k).2.1 = 1 ∧ kind = 1) → ¬ ((doR s kind k).2.1 = 1 ∧ kind = 2) → (doR s kind k).1.length = s.length) := by
  rw [doR_ok (h.right (by omega) hm) h1 h3 (keyB_of h0 (by omega))]
  by_cases e1 : kind = 1
  · rw [if_pos e1]
    cases hc : s.contains k with
    | true =>
      rw [if_pos rfl]
      exact ⟨fun h => absurd h.1 (show ¬ ((0 : Int) = 1) by decide), fun h => absurd h.1 (show ¬ ((0 : Int) = 1) by decide), fun _ _ => rfl⟩
    | false =>
      rw [if_neg (by decide), if_neg (by omega)]
      exact ⟨fun _ => ins_length _ _, fun h => absurd h.2 (by omega), fun h _ => absurd ⟨rfl, e1⟩ h⟩
  · rw [if_neg e1]
    by_cases e2 : kind = 2
    · rw [if_pos e2]
      cases hc : s.contains k with
      | true =>
        rw [if_pos rfl]
        exact ⟨fun h => absurd h.2 e1, fun _ => rem_length h.rises hc, fun _ h => absurd ⟨rfl, e2⟩ h⟩
      | false =>
        rw [if_neg (by decide)]
        exact ⟨fun h => absurd h.1 (show ¬ ((0 : Int) = 1) by decide), fun h => absurd h.1 (show ¬ ((0 : Int) = 1) by decide), fun _ _ => rfl⟩
    · rw [if_neg e2]
      exact ⟨fun h => absurd h.2 e1, fun h => absurd h.2 e2, fun _ _ => rfl⟩

theorem KS.snoc {m m' : Int} {s : List Int} (h : KS m s) {g : Int} (h0 : 0 ≤ m) (hm : m ≤ g) (hg : g < m') : KS m' (s ++ [g]) := by
  refine ⟨?_, fun x hx => ?_⟩
  · rw [List.pairwise_append]
    refine ⟨h.pw, List.pairwise_singleton _ _, fun x hx y hy => ?_⟩
    rw [List.mem_singleton] at hy
    have := (h.rng x hx).2
    omega
  · rw [List.mem_append, List.mem_singleton] at hx
    rcases hx with hx | rfl
    · have := h.rng x hx; omega
    · omega

theorem legalP_append : ∀ (l m : List OpV) (s : List Int), legalP s (l ++ m) = if (legalP s l).2 then legalP (legalP s l).1 m else ((legalP s l).1, false)
  | [], m, s => rfl
  | x :: l, m, s => by
    simp only [List.cons_append, legalP]
    split
    · exact legalP_append l m s
    · split
      · rfl
      · split
        · exact legalP_append l m _
        · rfl

theorem legalP_len : ∀ (l : List OpV) (s : List Int), (legalP s l).1.length ≤ s.length + l.length
  | [], s => Nat.le_refl _
  | x :: l, s => by
    have h1 := legalP_len l s
    have h2 := legalP_len l (doR s x.kd x.ky).1
    have h3 := doR_len s x.kd x.ky
    simp only [legalP, List.length_cons]
    split
    · omega
    · split
      · dsimp only; omega
      · split
        · omega
        · dsimp only; omega

theorem flat_take (L : List OpV) (k : Nat) : (L.flatMap opCells).take (k * 6) = (L.take k).flatMap opCells := by
  induction L generalizing k with
  | nil => simp
  | cons x L ih =>
    cases k with
    | zero => simp
    | succ k =>
      rw [List.take_succ_cons, List.flatMap_cons, List.flatMap_cons, ← ih k]
      have : (k + 1) * 6 = (opCells x).length + k * 6 := by simp [opCells]; omega
      rw [this, List.take_append, List.take_of_length_le (by omega)]
      congr 2
      omega

theorem flat_dropk (L : List OpV) (k : Nat) : (L.flatMap opCells).drop (k * 6) = (L.drop k).flatMap opCells := by
  induction L generalizing k with
  | nil => simp
  | cons x L ih =>
    cases k with
    | zero => simp
    | succ k =>
      rw [List.drop_succ_cons, List.flatMap_cons, ← ih k]
      have : (k + 1) * 6 = (opCells x).length + k * 6 := by simp [opCells]; omega
      rw [this, List.drop_append, List.drop_eq_nil_of_le (by omega), List.nil_append]
      congr 1
      omega

/-- The first k of a slice; the others. -/
theorem Sl.part {H : AH} {sz : Nat} {l : List Value} {b o sp n cap : Nat} (h : Sl H sz l (some ⟨b, o, some sp⟩) n cap) (i k cap' : Nat) (hk : i + k ≤ n) (hc : k ≤ cap') : Sl H sz ((l.drop (i * sz)).take (k * sz)) (some ⟨b, o + i * sz, some sp⟩) k cap' := by
  have hl := h.len
  have hle : (i + k) * sz ≤ n * sz := Nat.mul_le_mul_right _ hk
  rw [Nat.add_mul] at hle
  refine ⟨by simp; omega, hc, fun e => (by cases e), fun hk0 => ?_⟩
  obtain ⟨b', o', sp', he, hcells⟩ := h.get (by omega)
  cases he
  exact ⟨b, o + i * sz, sp, rfl, hcells.part (i * sz) (k * sz) (by omega)⟩

theorem OpsR.part {H : AH} {L : List OpV} {b o sp n cap : Nat} (h : Sl H 6 (L.flatMap opCells) (some ⟨b, o, some sp⟩) n cap) (hn : n = L.length) (i k cap' : Nat) (hk : i + k ≤ n) (hc : k ≤ cap') : OpsR H ((L.drop i).take k) (some ⟨b, o + i * 6, some sp⟩) cap' := by
  have := h.part i k cap' hk hc
  rw [flat_dropk, flat_take] at this
  have hlen : ((L.drop i).take k).length = k := by simp; omega
  unfold OpsR
  rw [hlen]
  exact this

theorem Own.lt {H : AH} {lo sz : Nat} {cs : List Value} {a : Option Addr} {n cap : Nat} (h : Own H lo sz cs a n cap) {b o : Nat} {sp : Option Nat} (he : a = some ⟨b, o, sp⟩) : b < H.next := by
  rcases h with ⟨rfl, _⟩ | ⟨b', _, rfl, _, h2, _⟩
  · cases he
  · cases he; exact h2

end Go.Proofs.YtmknkpcdfkpobaaA
