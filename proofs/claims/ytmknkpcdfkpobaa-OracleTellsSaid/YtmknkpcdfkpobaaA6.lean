/- Operations that cut, fill and grow slices. -/
import Derived.Test.YtmknkpcdfkpobaaA5
set_option linter.unusedVariables false
set_option linter.unusedSimpArgs false
namespace Go.Proofs.YtmknkpcdfkpobaaA
open Go.RowKit

section
variable {P : Program} {B : Nat} {ρ : Ren} {H : AH} {w : World} {K : Value → AH → Prop}

/-! ### Cutting -/

def bnd (v : Option Value) (d : Nat) : Option Nat :=
  match v with
  | none => some d
  | some (.int _ i) => if 0 ≤ i then some i.toNat else none
  | some _ => none

def OR (ρ : Ren) : Option Value → Option Value → Prop
  | none, none => True
  | some a, some b => VR ρ a b
  | _, _ => False

theorem sliceBound_run {d : Nat} {v v' : Value} {n y : Nat} {code : BoundsCode} (h : bnd (some v) d = some n) (hv : VR ρ v v') (hle : n ≤ y) (w : World) : (Instr.sliceBound v' y code).run P w = .ok n w := by
  unfold bnd at h
  split at h
  · cases ‹some v = none›
  · rename_i k i he
    cases he
    split at h
    · rename_i h0
      simp only [Option.some.injEq] at h; subst h
      cases hv
      simp only [Instr.sliceBound, asIntOf, Sem.run_bind, Sem.run_pure, Result.andThen_ok, Sem.run_ite]
      rw [if_pos ⟨h0, by omega⟩]
    · simp at h
  · simp at h

theorem sliceBounds_run {isS : Bool} {len cap : Nat} {lo hi mx lo' hi' mx' : Option Value} {l h m : Nat} (hl : bnd lo 0 = some l) (hh : bnd hi len = some h) (hm : bnd mx cap = some m)
    (hlo : OR ρ lo lo') (hhi : OR ρ hi hi') (hmx : OR ρ mx mx') (h1 : l ≤ h) (h2 : h ≤ m) (h3 : mx.isSome = true → hi.isSome = true ∧ m ≤ cap) (w : World) :
    (Instr.sliceBounds isS len cap lo' hi' mx').run P w = .ok (l, h, m) w := by
  unfold Instr.sliceBounds
  cases mx with
  | none =>
    cases mx' with
    | some _ => exact hmx.elim
    | none =>
      simp only [bnd, Option.some.injEq] at hm; subst hm
      cases hi with
      | none =>
        cases hi' with
        | some _ => exact hhi.elim
        | none =>
          simp only [bnd, Option.some.injEq] at hh; subst hh
          cases lo with
          | none => cases lo' with
            | none => simp only [bnd, Option.some.injEq] at hl; subst hl; simp
            | some _ => exact hlo.elim
          | some v => cases lo' with
            | none => exact hlo.elim
            | some v' => simp only [sliceBound_run hl hlo h1, Result.andThen_ok, Sem.run_bind, Sem.run_pure]
      | some v =>
        cases hi' with
        | none => exact hhi.elim
        | some v' =>
          cases lo with
          | none => cases lo' with
            | none => simp only [bnd, Option.some.injEq] at hl; subst hl; simp only [sliceBound_run hh hhi h2, Result.andThen_ok, Sem.run_bind, Sem.run_pure]
            | some _ => exact hlo.elim
          | some u => cases lo' with
            | none => exact hlo.elim
            | some u' => simp only [sliceBound_run hh hhi h2, sliceBound_run hl hlo h1, Result.andThen_ok, Sem.run_bind, Sem.run_pure]
  | some mv =>
    cases mx' with
    | none => exact hmx.elim
    | some mv' =>
      obtain ⟨h4, h5⟩ := h3 rfl
      have hM : ∀ code w, (Instr.sliceBound mv' cap code).run P w = .ok m w := fun code w => sliceBound_run hm hmx h5 w
      cases hi with
      | none => simp at h4
      | some hv =>
        cases hi' with
        | none => exact hhi.elim
        | some hv' =>
          have hHi : ∀ code w, (Instr.sliceBound hv' m code).run P w = .ok h w := fun code w => sliceBound_run hh hhi h2 w
          cases lo with
          | none => cases lo' with
            | none => simp only [bnd, Option.some.injEq] at hl; subst hl; simp only [hM, hHi, Result.andThen_ok, Sem.run_bind, Sem.run_pure]
            | some _ => exact hlo.elim
          | some v => cases lo' with
            | none => exact hlo.elim
            | some v' => simp only [hM, hHi, sliceBound_run hl hlo h1, Result.andThen_ok, Sem.run_bind, Sem.run_pure]

theorem bnd_some {v : Value} (d d' : Nat) : bnd (some v) d = bnd (some v) d' := by cases v <;> rfl

def asl (P : Program) (t : TypeId) (x : Value) (lo hi mx : Option Value) : Option Value :=
  match P.underlying t, x with
  | some .string, .string s =>
    match bnd lo 0, bnd hi s.size, mx with
    | some l, some h, none => if l ≤ h ∧ h ≤ s.size then some (.string (s.extract l h)) else none
    | _, _, _ => none
  | some (.slice elem), .slice none 0 0 =>
    match bnd lo 0, bnd hi 0, mx with
    | some 0, some 0, none => if (P.info? elem).isSome then some (.slice none 0 0) else none
    | _, _, _ => none
  | some (.slice elem), .slice (some ⟨b, o, some 0⟩) len cap =>
    match bnd lo 0, bnd hi len, bnd mx cap with
    | some l, some h, some m => if l ≤ h ∧ h ≤ m ∧ m ≤ cap ∧ (mx.isSome = true → hi.isSome = true) ∧ (P.info? elem).isSome = true then some (.slice (some ⟨b, o + l * P.cellsOf elem, some 0⟩) (h - l) (m - l)) else none
    | _, _, _ => none
  | some (.slice elem), .func (.methodOf len _) cs _ =>
    match bnd lo 0, bnd hi len, mx with
    | some l, some h, none => if l ≤ h ∧ h ≤ len ∧ (P.info? elem).isSome = true then some (FS ((cs.toList.drop (l * P.cellsOf elem)).take ((h - l) * P.cellsOf elem)) (h - l)) else none
    | _, _, _ => none
  | some (.array n elem), .pointer (some ⟨b, o, none⟩) =>
    match bnd lo 0, bnd hi n, mx with
    | some l, some h, none => if l ≤ h ∧ h ≤ n ∧ (P.info? elem).isSome = true then some (.slice (some ⟨b, o + l * P.cellsOf elem, some 0⟩) (h - l) (n - l)) else none
    | _, _, _ => none
  | some (.array n elem), .func (.method _) cs _ =>
    match bnd lo 0, bnd hi n, mx with
    | some l, some h, none => if l ≤ h ∧ h ≤ n ∧ (P.info? elem).isSome = true then some (FS ((cs.toList.drop (l * P.cellsOf elem)).take ((h - l) * P.cellsOf elem)) (h - l)) else none
    | _, _, _ => none
  | _, _ => none

theorem asl_good {t : TypeId} {x x' r : Value} {lo hi mx lo' hi' mx' : Option Value} (h : asl P t x lo hi mx = some r) (hx : VR ρ x x') (hlo : OR ρ lo lo') (hhi : OR ρ hi hi') (hmx : OR ρ mx mx') (w : World) :
    ∃ r', (Instr.sliceAt t x' lo' hi' mx').run P w = .ok r' w ∧ VR ρ r r' := by
  unfold asl at h
  unfold Instr.sliceAt
  split at h
  · rename_i s hu
    split at h
    · rename_i l hh hl hhv
      split at h
      · rename_i hc
        simp only [Option.some.injEq] at h; subst h
        cases hx
        cases mx' with
        | some _ => exact hmx.elim
        | none =>
          refine ⟨.string (s.extract l hh), ?_, .string _⟩
          have := sliceBounds_run (P := P) (isS := false) (cap := s.size) hl hhv (mx := none) (m := s.size) rfl hlo hhi (mx' := none) trivial hc.1 hc.2 (by simp) w
          simp only [Sem.run_bind, run_underlying hu, Result.andThen_ok, Instr.slice, Option.isSome_none, Bool.false_eq_true, if_false, Sem.run_pure, this]
      · simp at h
    · simp at h
  · rename_i elem hu
    split at h
    · rename_i hl hhv
      split at h
      · rename_i hsome
        obtain ⟨inf, hinf⟩ := Option.isSome_iff_exists.1 hsome
        simp only [Option.some.injEq] at h; subst h
        cases hx
        cases mx' with
        | some _ => exact hmx.elim
        | none =>
          refine ⟨.slice none 0 0, ?_, .slNil⟩
          have := sliceBounds_run (P := P) (isS := true) (cap := 0) hl hhv (mx := none) (m := 0) rfl hlo hhi (mx' := none) trivial (Nat.le_refl _) (Nat.le_refl _) (by simp) w
          simp only [Sem.run_bind, run_underlying hu, Result.andThen_ok, Instr.slice, this, run_sizeOf w hinf, Sem.run_pure, Nat.sub_self]
          rfl
      · simp at h
    · simp at h
  · rename_i elem b o len cap hu
    split at h
    · rename_i l hh m hl hhv hm
      split at h
      · rename_i hc
        obtain ⟨c1, c2, c3, c4, c5⟩ := hc
        obtain ⟨inf, hinf⟩ := Option.isSome_iff_exists.1 c5
        simp only [Option.some.injEq] at h; subst h
        have hb : ∀ w, (Instr.sliceBounds true len cap lo' hi' mx').run P w = .ok (l, hh, m) w := fun w => sliceBounds_run hl hhv hm hlo hhi hmx c1 c2 (fun e => ⟨c4 e, c3⟩) w
        cases hx with
        | slEx hr =>
          refine ⟨_, by simp only [Sem.run_bind, run_underlying hu, Result.andThen_ok, Instr.slice, hb, run_sizeOf w hinf, Sem.run_pure]; rfl, ?_⟩
          by_cases e : m = l
          · rw [if_pos e]
            have e1 : m - l = 0 := by omega
            have e2 : hh - l = 0 := by omega
            rw [e1, e2]; exact .slZ
          · rw [if_neg e]
            simp only [Option.map_some, Addr.add_none]
            rw [Nat.add_assoc]
            exact .slEx hr
        | slZ =>
          have e0 : m = l ∧ m - l = 0 ∧ hh - l = 0 := by omega
          refine ⟨_, by simp only [Sem.run_bind, run_underlying hu, Result.andThen_ok, Instr.slice, hb, run_sizeOf w hinf, Sem.run_pure]; rfl, ?_⟩
          rw [if_pos e0.1, e0.2.1, e0.2.2]; exact .slZ
      · simp at h
    · simp at h
  · rename_i elem len nm cs c0 hu
    split at h
    · rename_i l hh hl hhv
      split at h
      · rename_i hc
        obtain ⟨c1, c2, c3⟩ := hc
        obtain ⟨inf, hinf⟩ := Option.isSome_iff_exists.1 c3
        simp only [Option.some.injEq] at h; subst h
        cases mx' with
        | some _ => exact hmx.elim
        | none =>
          have hb : ∀ c' w, hh ≤ c' → (Instr.sliceBounds true len c' lo' hi' none).run P w = .ok (l, hh, c') w := fun c' w hc' =>
            sliceBounds_run hl hhv (mx := none) (mx' := none) rfl hlo hhi trivial c1 hc' (by simp) w
          have htk : ∀ {b o : Nat} (k : Nat), (∀ i v, cs.toList[i]? = some v → ρ.z b (o + i) v) → ∀ i v, ((cs.toList.drop (l * P.cellsOf elem)).take k)[i]? = some v → ρ.z b (o + l * P.cellsOf elem + i) v := by
            intro b o k hr i v hi
            rw [List.getElem?_take] at hi
            split at hi
            · exact frz_drop _ hr i v hi
            · cases hi
          cases hx with
          | func _ hm => cases hm
          | frzS hc hr =>
            rename_i c' b o
            refine ⟨_, by simp only [Sem.run_bind, run_underlying hu, Result.andThen_ok, Instr.slice, hb c' _ (by omega), run_sizeOf w hinf, Sem.run_pure]; rfl, ?_⟩
            by_cases e : c' = l
            · rw [if_pos e]
              have e2 : hh - l = 0 := by omega
              rw [e2, Nat.zero_mul, List.take_zero]
              exact VR.fs (Nat.zero_le _) (fun i v hi => by simp at hi)
            · rw [if_neg e]
              simp only [Option.map_some, Addr.add_none]
              exact VR.fs (by omega) (htk _ hr)
          | frzN hr =>
            refine ⟨_, by simp only [Sem.run_bind, run_underlying hu, Result.andThen_ok, Instr.slice, hb 0 _ (by omega), run_sizeOf w hinf, Sem.run_pure]; rfl, ?_⟩
            have e2 : hh - l = 0 := by omega
            have e3 : l = 0 := by omega
            rw [e2, e3, Nat.zero_mul, List.take_zero, if_pos rfl]
            exact .frzN rfl
          | frzZ hr =>
            refine ⟨_, by simp only [Sem.run_bind, run_underlying hu, Result.andThen_ok, Instr.slice, hb 0 _ (by omega), run_sizeOf w hinf, Sem.run_pure]; rfl, ?_⟩
            have e2 : hh - l = 0 := by omega
            have e3 : l = 0 := by omega
            rw [e2, e3, Nat.zero_mul, List.take_zero, if_pos rfl]
            exact .frzZ rfl
      · simp at h
    · simp at h
  · rename_i n elem b o hu
    split at h
    · rename_i l hh hl hhv
      split at h
      · rename_i hc
        obtain ⟨c1, c2, c3⟩ := hc
        obtain ⟨inf, hinf⟩ := Option.isSome_iff_exists.1 c3
        simp only [Option.some.injEq] at h; subst h
        cases mx' with
        | some _ => exact hmx.elim
        | none =>
          cases hx with
          | ptr hr =>
            have hb : ∀ w, (Instr.sliceBounds false n n lo' hi' none).run P w = .ok (l, hh, n) w := fun w =>
              sliceBounds_run hl hhv (mx := none) (mx' := none) rfl hlo hhi trivial c1 c2 (by simp) w
            refine ⟨_, by simp only [Sem.run_bind, run_underlying hu, Result.andThen_ok, Instr.sureAddr, hb, run_sizeOf w hinf, Sem.run_pure]; rfl, ?_⟩
            by_cases e : n = l
            · rw [if_pos e]
              have e1 : n - l = 0 := by omega
              have e2 : hh - l = 0 := by omega
              rw [e1, e2]; exact .slZ
            · rw [if_neg e, Addr.add_none, Nat.add_assoc]
              exact .slEx hr
      · simp at h
    · simp at h
  · rename_i n elem nm cs c0 hu
    split at h
    · rename_i l hh hl hhv
      split at h
      · rename_i hc
        obtain ⟨c1, c2, c3⟩ := hc
        obtain ⟨inf, hinf⟩ := Option.isSome_iff_exists.1 c3
        simp only [Option.some.injEq] at h; subst h
        cases mx' with
        | some _ => exact hmx.elim
        | none =>
          cases hx with
          | func _ hm => cases hm
          | frzP hr =>
            rename_i b o
            have hb : ∀ w, (Instr.sliceBounds false n n lo' hi' none).run P w = .ok (l, hh, n) w := fun w =>
              sliceBounds_run hl hhv (mx := none) (mx' := none) rfl hlo hhi trivial c1 c2 (by simp) w
            refine ⟨_, by simp only [Sem.run_bind, run_underlying hu, Result.andThen_ok, Instr.sureAddr, hb, run_sizeOf w hinf, Sem.run_pure]; rfl, ?_⟩
            by_cases e : n = l
            · rw [if_pos e]
              have e1 : n - l = 0 := by omega
              have e2 : hh - l = 0 := by omega
              rw [e1, e2, Nat.zero_mul, List.take_zero]; exact .frzZ rfl
            · rw [if_neg e, Addr.add_none]
              refine VR.fs (by omega) (fun i v hi => ?_)
              rw [List.getElem?_take] at hi
              split at hi
              · exact frz_drop _ hr i v hi
              · cases hi
      · simp at h
    · simp at h
  · simp at h

end
end Go.Proofs.YtmknkpcdfkpobaaA
