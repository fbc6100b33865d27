/- Sets of small keys: plain facts. -/
import Derived.Test.YtmknkpcdfkpobaaE4
set_option linter.unusedVariables false
set_option linter.unusedSimpArgs false
namespace Go.Proofs.YtmknkpcdfkpobaaA
open Go.RowKit

/-- A set of keys from 0 on, less than m. -/
structure KS (m : Int) (s : List Int) : Prop where
  pw : s.Pairwise (· < ·)
  rng : ∀ x ∈ s, 0 ≤ x ∧ x < m

theorem KS.rises {m : Int} {s : List Int} (h : KS m s) : Rises s := by
  intro i j hij hj
  have := List.pairwise_iff_getElem.1 h.pw i j (by omega) hj hij
  simpa [List.getD, hj, show i < s.length by omega] using this

theorem pw_of_rises {s : List Int} (h : Rises s) : s.Pairwise (· < ·) := by
  rw [List.pairwise_iff_getElem]
  intro i j hi hj hij
  have := h i j hij hj
  simpa [List.getD, hj, hi] using this

theorem KS.low {m : Int} {s : List Int} (h : KS m s) : ∀ i, i < s.length → (i : Int) ≤ s.getD i 0
  | 0, hi => (h.rng _ (getD_mem hi)).1
  | i + 1, hi => by
    have h1 := KS.low h i (by omega)
    have h2 := h.rises i (i + 1) (Nat.lt_succ_self i) hi
    omega

theorem KS.len {m : Nat} {s : List Int} (h : KS m s) : s.length ≤ m := by
  rcases Nat.eq_zero_or_pos s.length with h0 | h0
  · omega
  · have h1 := h.low (s.length - 1) (by omega)
    have h2 := (h.rng _ (getD_mem (show s.length - 1 < s.length by omega))).2
    omega

theorem keyB_of {x : Int} (h0 : 0 ≤ x) (h1 : x < 1000000000000) : keyB x = true := by
  unfold keyB
  rw [Bool.and_eq_true]
  exact ⟨decide_eq_true (by omega), decide_eq_true (by omega)⟩

theorem KS.right {m : Nat} {s : List Int} (h : KS m s) (hl : s.length ≤ 1000) (hm : m ≤ 1000000000000) : Right s = true :=
  Right.intro hl (fun i hi => keyB_of (h.rng _ (getD_mem hi)).1 (by have := (h.rng _ (getD_mem hi)).2; omega)) h.rises

theorem mem_ins {k x : Int} : ∀ {s : List Int}, x ∈ ins k s ↔ x = k ∨ x ∈ s
  | [] => by simp [ins]
  | y :: s => by
    simp only [ins]
    split
    · simp
    · rw [List.mem_cons, mem_ins, List.mem_cons]
      constructor
      · rintro (h | h | h)
        · exact .inr (.inl h)
        · exact .inl h
        · exact .inr (.inr h)
      · rintro (h | h | h)
        · exact .inr (.inl h)
        · exact .inl h
        · exact .inr (.inr h)

theorem pw_ins {k : Int} : ∀ {s : List Int}, s.Pairwise (· < ·) → ¬ k ∈ s → (ins k s).Pairwise (· < ·)
  | [], _, _ => by simp [ins]
  | y :: s, h, hk => by
    simp only [ins]
    rw [List.pairwise_cons] at h
    split
    · rename_i hlt
      rw [List.pairwise_cons]
      refine ⟨fun z hz => ?_, List.pairwise_cons.2 h⟩
      rw [List.mem_cons] at hz
      rcases hz with rfl | hz
      · exact hlt
      · exact Int.lt_trans hlt (h.1 z hz)
    · rename_i hlt
      rw [List.pairwise_cons]
      refine ⟨fun z hz => ?_, pw_ins h.2 fun hm => hk (List.mem_cons_of_mem _ hm)⟩
      rw [mem_ins] at hz
      rcases hz with rfl | hz
      · have : z ≠ y := fun e => hk (by rw [e]; exact List.mem_cons_self)
        omega
      · exact h.1 z hz

theorem KS.ins {m : Int} {s : List Int} (h : KS m s) {k : Int} (h0 : 0 ≤ k) (h1 : k < m) (hn : ¬ k ∈ s) : KS m (YtmknkpcdfkpobaaA.ins k s) :=
  ⟨pw_ins h.pw hn, fun x hx => by
    rw [mem_ins] at hx
    rcases hx with rfl | hx
    · exact ⟨h0, h1⟩
    · exact h.rng x hx⟩

theorem KS.rem {m : Int} {s : List Int} (h : KS m s) (k : Int) : KS m (YtmknkpcdfkpobaaA.rem k s) :=
  ⟨List.Pairwise.filter _ h.pw, fun x hx => h.rng x (List.mem_filter.1 hx).1⟩

theorem KS.mono {m m' : Int} (hm : m ≤ m') {s : List Int} (h : KS m s) : KS m' s := ⟨h.pw, fun x hx => ⟨(h.rng x hx).1, by have := (h.rng x hx).2; omega⟩⟩

/-- What an operation does to a right set of which there is room. -/
theorem doR_ok {s : List Int} {kind k : Int} (hR : Right s = true) (h1 : 1 ≤ kind) (h3 : kind ≤ 3) (hk : keyB k = true) :
    doR s kind k = if kind = 1 then (if s.contains k then (s, 0, 0) else if 1000 ≤ s.length then (s, 0, 2) else (ins k s, 1, 0))
      else if kind = 2 then (if s.contains k then (rem k s, 1, 0) else (s, 0, 0)) else (s, if s.contains k then 1 else 0, 0) := by
  unfold doR
  rw [if_neg]
  rintro (h | h | h | h)
  · rw [hR] at h; cases h
  · omega
  · omega
  · rw [hk] at h; cases h

theorem KS.do {m : Nat} {s : List Int} (h : KS m s) (hl : s.length < 1000) (hm : m ≤ 1000000000000) {kind k : Int} (h1 : 1 ≤ kind) (h3 : kind ≤ 3) (h0 : 0 ≤ k) (hk : k < m) :
    KS m (doR s kind k).1 ∧ (doR s kind k).2.2 = 0 ∧ ((doR s kind k).2.1 = 0 ∨ (doR s kind k).2.1 = 1) := by
  rw [doR_ok (h.right (by omega) hm) h1 h3 (keyB_of h0 (by omega))]
  have hnc : s.contains k = false → ¬ k ∈ s := fun hc hm => by rw [← List.contains_iff_mem, hc] at hm; cases hm
  by_cases e1 : kind = 1
  · rw [if_pos e1]
    cases hc : s.contains k with
    | true => exact ⟨h, rfl, .inl rfl⟩
    | false => rw [if_neg (by decide), if_neg (by omega)]; exact ⟨h.ins h0 hk (hnc hc), rfl, .inr rfl⟩
  · rw [if_neg e1]
    by_cases e2 : kind = 2
    · rw [if_pos e2]
      cases hc : s.contains k with
      | true => exact ⟨h.rem k, rfl, .inr rfl⟩
      | false => exact ⟨h, rfl, .inl rfl⟩
    · rw [if_neg e2]
      refine ⟨h, rfl, ?_⟩
      dsimp only
      split
      · exact .inr rfl
      · exact .inl rfl

theorem KS.fold {s : List Int} (h : KS 20 s) : ∀ raw : List Int, KS 20 (raw.foldl keyStep s)
  | [] => h
  | r :: raw => by
    have hr := pickP_range r 20 (by decide)
    have hl := KS.len (m := 20) h
    exact KS.fold (KS.do (m := 20) h (by omega) (by decide) (by decide) (by decide) hr.1 hr.2).1 raw

theorem keysP_ks (raw : List Int) : KS 20 (keysP raw) := KS.fold ⟨List.Pairwise.nil, fun x hx => (by cases hx)⟩ _
theorem keysP_len (raw : List Int) : (keysP raw).length ≤ 20 := KS.len (m := 20) (keysP_ks raw)

theorem legalP_nil (s : List Int) : legalP s [] = (s, true) := rfl
theorem legalP_skip {s : List Int} {x : OpV} {l : List OpV} (h1 : x.rs = 2) (h2 : x.kd = 1) (h3 : (doR s x.kd x.ky).2.2 = 0 ∨ (doR s x.kd x.ky).2.2 = 2) : legalP s (x :: l) = legalP s l := by
  rw [legalP, if_pos ⟨h1, h2, h3⟩]
theorem legalP_go {s : List Int} {x : OpV} {l : List OpV} (h1 : ¬ (x.rs = 2 ∧ x.kd = 1)) (h2 : (doR s x.kd x.ky).2.2 = 0) (h3 : x.rs = (doR s x.kd x.ky).2.1 ∨ x.rs = -1) : legalP s (x :: l) = legalP (doR s x.kd x.ky).1 l := by
  rw [legalP, if_neg (fun h => h1 ⟨h.1, h.2.1⟩), if_neg (fun h => h h2), if_pos h3]
theorem legalP_no {s : List Int} {x : OpV} {l : List OpV} (h1 : ¬ (x.rs = 2 ∧ x.kd = 1)) (h2 : (doR s x.kd x.ky).2.2 = 0) (h3 : x.rs ≠ (doR s x.kd x.ky).2.1) (h4 : x.rs ≠ -1) : legalP s (x :: l) = (s, false) := by
  rw [legalP, if_neg (fun h => h1 ⟨h.1, h.2.1⟩), if_neg (fun h => h h2), if_neg (fun h => h.elim h3 h4)]

end Go.Proofs.YtmknkpcdfkpobaaA
