/- Sets by their members; operations of unlike keys in either order. -/
import Derived.Test.YtmknkpcdfkpobaaF1
set_option linter.unusedVariables false
set_option linter.unusedSimpArgs false
namespace Go.Proofs.YtmknkpcdfkpobaaA
open Go.RowKit

theorem sorted_ext : ∀ {l m : List Int}, l.Pairwise (· < ·) → m.Pairwise (· < ·) → (∀ x, x ∈ l ↔ x ∈ m) → l = m
  | [], [], _, _, _ => rfl
  | [], y :: m, _, _, h => absurd ((h y).2 List.mem_cons_self) (by simp)
  | x :: l, [], _, _, h => absurd ((h x).1 List.mem_cons_self) (by simp)
  | x :: l, y :: m, hl, hm, h => by
    rw [List.pairwise_cons] at hl hm
    have hxy : x = y := by
      have h1 := (h x).1 List.mem_cons_self
      have h2 := (h y).2 List.mem_cons_self
      rw [List.mem_cons] at h1 h2
      rcases h1 with h1 | h1
      · exact h1
      · rcases h2 with h2 | h2
        · exact h2.symm
        · have := hl.1 y h2; have := hm.1 x h1; omega
    subst hxy
    congr 1
    refine sorted_ext hl.2 hm.2 fun z => ?_
    have hz := h z
    rw [List.mem_cons, List.mem_cons] at hz
    constructor
    · intro hzl
      rcases hz.1 (.inr hzl) with rfl | h
      · exact absurd (hl.1 z hzl) (Int.lt_irrefl z)
      · exact h
    · intro hzm
      rcases hz.2 (.inr hzm) with rfl | h
      · exact absurd (hm.1 z hzm) (Int.lt_irrefl z)
      · exact h

theorem mem_rem {k x : Int} {s : List Int} : x ∈ rem k s ↔ x ∈ s ∧ x ≠ k := by simp [rem]

/-- What is in a set behind an operation; what that comes to. -/
theorem KS.mem {m : Nat} {s : List Int} (h : KS m s) (hl : s.length < 1000) (hm : m ≤ 1000000000000) {kind k : Int} (h1 : 1 ≤ kind) (h3 : kind ≤ 3) (h0 : 0 ≤ k) (hk : k < m) :
    (∀ x, x ∈ (doR s kind k).1 ↔ (kind = 1 ∧ x = k) ∨ (x ∈ s ∧ ¬ (kind = 2 ∧ x = k))) ∧ ((doR s kind k).2.1 = if kind = 1 then (if k ∈ s then 0 else 1) else if k ∈ s then 1 else 0) := by
  rw [doR_ok (h.right (by omega) hm) h1 h3 (keyB_of h0 (by omega))]
  have hmc : s.contains k = true ↔ k ∈ s := List.contains_iff_mem
  by_cases e1 : kind = 1
  · simp only [if_pos e1]
    by_cases hc : k ∈ s
    · rw [if_pos (hmc.2 hc), if_pos hc]
      refine ⟨fun x => ⟨fun hx => .inr ⟨hx, fun h => by omega⟩, fun hx => ?_⟩, rfl⟩
      rcases hx with ⟨_, rfl⟩ | hx
      · exact hc
      · exact hx.1
    · rw [if_neg (fun h => hc (hmc.1 h)), if_neg (by omega), if_neg hc]
      refine ⟨fun x => ?_, rfl⟩
      show x ∈ YtmknkpcdfkpobaaA.ins k s ↔ _
      rw [mem_ins]
      constructor
      · rintro (hx | hx)
        · exact .inl ⟨e1, hx⟩
        · exact .inr ⟨hx, fun h => by omega⟩
      · rintro (hx | hx)
        · exact .inl hx.2
        · exact .inr hx.1
  · simp only [if_neg e1]
    by_cases e2 : kind = 2
    · simp only [if_pos e2]
      by_cases hc : k ∈ s
      · rw [if_pos (hmc.2 hc), if_pos hc]
        refine ⟨fun x => ?_, rfl⟩
        show x ∈ YtmknkpcdfkpobaaA.rem k s ↔ _
        rw [mem_rem]
        constructor
        · rintro ⟨hx, hne⟩
          exact .inr ⟨hx, fun h => hne h.2⟩
        · rintro (hx | hx)
          · exact absurd hx.1 e1
          · exact ⟨hx.1, fun h => hx.2 ⟨e2, h⟩⟩
      · rw [if_neg (fun h => hc (hmc.1 h)), if_neg hc]
        refine ⟨fun x => ⟨fun hx => .inr ⟨hx, fun h => hc (h.2 ▸ hx)⟩, fun hx => ?_⟩, rfl⟩
        rcases hx with hx | hx
        · exact absurd hx.1 e1
        · exact hx.1
    · simp only [if_neg e2]
      refine ⟨fun x => ⟨fun hx => .inr ⟨hx, fun h => e2 h.1⟩, fun hx => ?_⟩, ?_⟩
      · rcases hx with hx | hx
        · exact absurd hx.1 e1
        · exact hx.1
      · by_cases hc : k ∈ s
        · rw [if_pos (hmc.2 hc), if_pos hc]
        · rw [if_neg (fun h => hc (hmc.1 h)), if_neg hc]

/-- Operations of unlike keys, in either order. -/
theorem KS.order {s : List Int} (h : KS 20 s) {ka kb k m : Int} (ha1 : 1 ≤ ka) (ha3 : ka ≤ 3) (hb1 : 1 ≤ kb) (hb3 : kb ≤ 3) (hk0 : 0 ≤ k) (hk : k < 20) (hm0 : 0 ≤ m) (hm : m < 20) (hne : k ≠ m) :
    (doR (doR s ka k).1 kb m).1 = (doR (doR s kb m).1 ka k).1 ∧ (doR s ka k).2.1 = (doR (doR s kb m).1 ka k).2.1 ∧ (doR (doR s ka k).1 kb m).2.1 = (doR s kb m).2.1 := by
  have hl := KS.len (m := 20) h
  have a := KS.do (m := 20) h (by omega) (by decide) ha1 ha3 hk0 hk
  have c := KS.do (m := 20) h (by omega) (by decide) hb1 hb3 hm0 hm
  have la := KS.len (m := 20) a.1
  have lc := KS.len (m := 20) c.1
  have b := KS.do (m := 20) a.1 (by omega) (by decide) hb1 hb3 hm0 hm
  have d := KS.do (m := 20) c.1 (by omega) (by decide) ha1 ha3 hk0 hk
  have ma := KS.mem (m := 20) h (by omega) (by decide) ha1 ha3 hk0 hk
  have mc := KS.mem (m := 20) h (by omega) (by decide) hb1 hb3 hm0 hm
  have mb := KS.mem (m := 20) a.1 (by omega) (by decide) hb1 hb3 hm0 hm
  have md := KS.mem (m := 20) c.1 (by omega) (by decide) ha1 ha3 hk0 hk
  have km : (k ∈ (doR s kb m).1) ↔ k ∈ s := by
    rw [mc.1]
    constructor
    · rintro (h | h)
      · exact absurd h.2 hne
      · exact h.1
    · exact fun h => .inr ⟨h, fun e => hne e.2⟩
  have mk : (m ∈ (doR s ka k).1) ↔ m ∈ s := by
    rw [ma.1]
    constructor
    · rintro (h | h)
      · exact absurd h.2.symm hne
      · exact h.1
    · exact fun h => .inr ⟨h, fun e => hne e.2.symm⟩
  refine ⟨sorted_ext b.1.pw d.1.pw fun x => ?_, ?_, ?_⟩
  · rw [mb.1, md.1, ma.1, mc.1]
    by_cases h1 : x = k
    · by_cases h2 : x = m
      · exact absurd (h1.symm.trans h2) hne
      · simp [h1, h2, hne]
    · by_cases h2 : x = m
      · simp [h1, h2, Ne.symm hne]
      · simp [h1, h2]
  · rw [ma.2, md.2]; simp only [km]
  · rw [mb.2, mc.2]; simp only [mk]

end Go.Proofs.YtmknkpcdfkpobaaA
