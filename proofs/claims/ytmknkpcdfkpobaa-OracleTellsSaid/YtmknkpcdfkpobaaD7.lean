/- What Do does, in plain Lean; facts on rising lists. -/
import Derived.Test.YtmknkpcdfkpobaaD6
set_option linter.unusedVariables false
set_option linter.unusedSimpArgs false
namespace Go.Proofs.YtmknkpcdfkpobaaA
open Go.RowKit

def rem (k : Int) (xs : List Int) : List Int := xs.filter (fun x => !decide (x = k))

/-- What an operation makes of a set; what it comes to; the error. -/
def doR (xs : List Int) (kind k : Int) : List Int × Int × Int :=
  if Right xs = false ∨ kind < 1 ∨ 3 < kind ∨ keyB k = false then (xs, 0, 1)
  else if kind = 1 then (if xs.contains k then (xs, 0, 0) else if 1000 ≤ xs.length then (xs, 0, 2) else (ins k xs, 1, 0))
  else if kind = 2 then (if xs.contains k then (rem k xs, 1, 0) else (xs, 0, 0))
  else (xs, if xs.contains k then 1 else 0, 0)

theorem Right.le {xs : List Int} (h : Right xs = true) : xs.length ≤ 1000 := by
  unfold Right at h
  rw [Bool.and_eq_true] at h
  exact of_decide_eq_true h.2

theorem Right.step {xs : List Int} (h : Right xs = true) (i : Nat) (hi : i + 1 < xs.length) : xs.getD i 0 < xs.getD (i + 1) 0 := by
  unfold Right at h
  rw [Bool.and_eq_true, List.all_eq_true] at h
  have := h.1 (i + 1) (by simpa using hi)
  unfold okAt at this
  rw [Bool.and_eq_true, Bool.or_eq_true] at this
  rcases this.2 with h1 | h1
  · have := of_decide_eq_true h1; omega
  · simpa using of_decide_eq_true h1

theorem Right.key {xs : List Int} (h : Right xs = true) (i : Nat) (hi : i < xs.length) : keyB (xs.getD i 0) = true := by
  unfold Right at h
  rw [Bool.and_eq_true, List.all_eq_true] at h
  have := h.1 i (by simpa using hi)
  unfold okAt at this
  rw [Bool.and_eq_true] at this
  exact this.1

theorem Right.rises {xs : List Int} (h : Right xs = true) : Rises xs := by
  intro i j hij hj
  induction j with
  | zero => omega
  | succ j ih =>
    have h1 := Right.step h j hj
    rcases Nat.lt_or_ge i j with h2 | h2
    · exact Int.lt_trans (ih h2 (by omega)) h1
    · have : i = j := by omega
      subst this; exact h1

theorem Right.intro {xs : List Int} (hl : xs.length ≤ 1000) (hk : ∀ i, i < xs.length → keyB (xs.getD i 0) = true) (hr : Rises xs) : Right xs = true := by
  unfold Right
  rw [Bool.and_eq_true, List.all_eq_true]
  refine ⟨fun i hi => ?_, decide_eq_true hl⟩
  have hi' : i < xs.length := by simpa using hi
  unfold okAt
  rw [hk i hi', Bool.true_and, Bool.or_eq_true]
  by_cases h0 : i = 0
  · exact .inl (decide_eq_true h0)
  · exact .inr (decide_eq_true (hr _ _ (by omega) hi'))

theorem getD_mem {xs : List Int} {i : Nat} (h : i < xs.length) : xs.getD i 0 ∈ xs := by
  simp [List.getD, h]

theorem mem_getD {xs : List Int} {x : Int} (h : x ∈ xs) : ∃ i, i < xs.length ∧ xs.getD i 0 = x := by
  obtain ⟨i, h1, h2⟩ := List.getElem_of_mem h
  exact ⟨i, h1, by simp [List.getD, h1, h2]⟩

theorem getD_drop (xs : List Int) (p t : Nat) : (xs.drop p).getD t 0 = xs.getD (p + t) 0 := by
  simp [List.getD, List.getElem?_drop]

/-- Where a search ends: is the key there? -/
theorem found_iff {xs : List Int} {k : Int} {p : Nat} (h1 : ∀ t, t < p → xs.getD t 0 < k) (h2 : ∀ t, p ≤ t → t < xs.length → k ≤ xs.getD t 0) (hr : Rises xs) :
    (decide (p < xs.length) && decide (xs.getD p 0 = k)) = xs.contains k := by
  rw [Bool.eq_iff_iff, List.contains_iff_mem, Bool.and_eq_true]
  constructor
  · rintro ⟨a, b⟩
    rw [← of_decide_eq_true b]
    exact getD_mem (of_decide_eq_true a)
  · intro h
    obtain ⟨i, hi, he⟩ := mem_getD h
    have hip : p ≤ i := by
      rcases Nat.lt_or_ge i p with h3 | h3
      · have := h1 i h3; omega
      · exact h3
    have : i = p := by
      rcases Nat.lt_or_ge p i with h3 | h3
      · have a1 := hr p i h3 hi
        have a2 := h2 p (Nat.le_refl _) (by omega)
        omega
      · omega
    subst this
    exact ⟨decide_eq_true hi, decide_eq_true he⟩

theorem ins_at {xs : List Int} {k : Int} {p : Nat} (hp : p ≤ xs.length) (h1 : ∀ t, t < p → xs.getD t 0 < k) (h2 : ∀ t, p ≤ t → t < xs.length → k ≤ xs.getD t 0) (hn : ¬ k ∈ xs) :
    ins k xs = xs.take p ++ k :: xs.drop p := by
  have e : xs = xs.take p ++ xs.drop p := (List.take_append_drop p xs).symm
  conv => lhs; rw [e]
  rw [ins_not k _ _ fun x hx => by
    obtain ⟨i, hi, he⟩ := mem_getD hx
    have hi' : i < p := by have : (xs.take p).length = p := by simp; omega
                           omega
    have : xs.getD i 0 = x := by rw [← he]; simp [List.getD, List.getElem?_take, hi']
    have := h1 i hi'
    omega]
  congr 1
  cases hd : xs.drop p with
  | nil => rfl
  | cons y l =>
    have hpl : p < xs.length := by
      have : (xs.drop p).length = l.length + 1 := by rw [hd]; rfl
      simp at this; omega
    have hy : xs.getD p 0 = y := by
      have := getD_drop xs p 0
      rw [hd] at this
      simpa using this.symm
    have hle := h2 p (Nat.le_refl _) hpl
    have hne : k ≠ y := fun e => hn (by rw [e, ← hy]; exact getD_mem hpl)
    simp only [ins]
    rw [if_pos (by omega)]

theorem rem_at {xs : List Int} {k : Int} {p : Nat} (hp : p < xs.length) (he : xs.getD p 0 = k) (hr : Rises xs) : rem k xs = xs.take p ++ xs.drop (p + 1) := by
  have e : xs = xs.take p ++ (k :: xs.drop (p + 1)) := by
    have h1 : xs.drop p = k :: xs.drop (p + 1) := by
      rw [List.drop_eq_getElem_cons hp, ← he]; simp [List.getD, hp]
    rw [← h1, List.take_append_drop]
  have keep : ∀ l : List Int, (∀ x ∈ l, x ≠ k) → l.filter (fun x => !decide (x = k)) = l := fun l hl => by
    rw [List.filter_eq_self]; intro x hx; simp [hl x hx]
  unfold rem
  conv => lhs; rw [e]
  rw [List.filter_append, List.filter_cons, if_neg (by simp)]
  rw [keep _ fun x hx => by
    obtain ⟨i, hi, hx'⟩ := mem_getD hx
    have hl : (xs.take p).length = p := by simp; omega
    have : xs.getD i 0 = x := by rw [← hx']; simp [List.getD, List.getElem?_take, show i < p by omega]
    have := hr i p (by omega) hp
    omega]
  rw [keep _ fun x hx => by
    obtain ⟨i, hi, hx'⟩ := mem_getD hx
    rw [getD_drop] at hx'
    have hl : (xs.drop (p + 1)).length = xs.length - (p + 1) := by simp
    have := hr p (p + 1 + i) (by omega) (by omega)
    omega]

end Go.Proofs.YtmknkpcdfkpobaaA
