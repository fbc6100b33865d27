/- copy, clear, len, min, max; all operations but calls. -/
import Derived.Test.YtmknkpcdfkpobaaA8
set_option linter.unusedVariables false
set_option linter.unusedSimpArgs false
namespace Go.Proofs.YtmknkpcdfkpobaaA
open Go.RowKit

section
variable {P : Program} {B : Nat} {ρ : Ren} {H : AH} {w : World} {K : Value → AH → Prop}

def acopy (P : Program) (argTypes : Array TypeId) (d x : Value) (H : AH) (K : Value → AH → Prop) : Prop :=
  match (argTypes[0]?).bind (elemOf? P), alen x with
  | some elem, some n =>
    (P.info? elem).isSome = true ∧
    match d with
    | .slice none 0 0 => K (.int .i64 0) H
    | .slice (some ⟨b, o, _⟩) len _ =>
      if Nat.min n len = 0 then K (.int .i64 0) H
      else match acells H (P.cellsOf elem) (Nat.min n len) x, H.blk b with
        | some l, some (.cells cs true) => o + l.length ≤ cs.length ∧ K (.int .i64 (Nat.min n len)) (H.set b (.cells (splice cs o l) true))
        | _, _ => False
    | _ => False
  | _, _ => False

theorem firstCells_zero {x x' : Value} {n : Nat} (hn : alen x = some n) (hx : VR ρ x x') (size : Nat) (w : World) : (Builtin.firstCells size 0 x').run P w = .ok #[] w := by
  have : ∀ a, (loadCells a (0 * size)).run P w = .ok #[] w := fun a => by rw [Nat.zero_mul]; rfl
  unfold alen at hn
  split at hn <;> first | (simp at hn; done) | skip
  · cases hx <;> first | exact this _ | rfl
  · cases hx
    simp [Builtin.firstCells]
  · cases hx with
    | func _ hm => cases hm
    | frzS => exact this _
    | frzN => rfl
    | frzZ => exact this _

theorem acopy_good {argTypes : Array TypeId} {ty : TypeId} {d d' x x' : Value} (hS : Sim B ρ H w) (hd : VR ρ d d') (hx : VR ρ x x') (h : acopy P argTypes d x H K) :
    Yield P B ρ w K (Builtin.copy_ argTypes ty #[d', x']) := by
  unfold acopy at h
  split at h
  · rename_i elem n hT hn
    obtain ⟨T, hT0, hT1⟩ := Option.bind_eq_some_iff.1 hT
    have hu := elemOf?_some hT1
    obtain ⟨hsome, h⟩ := h
    obtain ⟨inf, hinf⟩ := Option.isSome_iff_exists.1 hsome
    have hlen := fun w => alen_run (P := P) hn hx w
    have zero : ∀ {base : Option Addr} {dl dc : Nat}, Nat.min n dl = 0 → (Builtin.copy_ argTypes ty #[.slice base dl dc, x']).run P w = .ok (.int .i64 0) w := by
      intro base dl dc h0
      unfold Builtin.copy_
      simp only [hT0, List.getElem?_toArray, List.getElem?_cons_zero, List.getElem?_cons_succ, Sem.run_bind, run_underlying hu, Result.andThen_ok, hlen, h0, run_sizeOf w hinf, firstCells_zero hn hx]
      cases base <;> simp [storeCells, goInt]
    split at h
    · cases hd
      exact Yield.pure (zero (by simp [Nat.min])) hS (.int _ _) h
    · rename_i b o sp len cap
      split at h
      · rename_i h0
        cases hd with
        | slEx hr => exact Yield.pure (zero h0) hS (.int _ _) h
        | slZ => exact Yield.pure (zero h0) hS (.int _ _) h
      · rename_i h0
        split at h
        · rename_i l cs hl hb
          obtain ⟨hle, hK⟩ := h
          obtain ⟨l', h1, h2, h3, h4⟩ := acells_run (P := P) hl hS hx
          obtain ⟨r, hr, hat⟩ := hS.get b _ hb
          obtain ⟨w', g1, g2, g3, g4, g5⟩ := CellsAt.write hat hle h2 (List.all_eq_true.1 h3) P
          have key : ∀ {dc : Nat}, (Builtin.copy_ argTypes ty #[.slice (some ⟨r.blk, r.sh + o, none⟩) len dc, x']).run P w = .ok (.int .i64 (Nat.min n len)) w' := by
            intro dc
            unfold Builtin.copy_
            simp only [hT0, List.getElem?_toArray, List.getElem?_cons_zero, List.getElem?_cons_succ, Sem.run_bind, run_underlying hu, Result.andThen_ok, hlen, run_sizeOf w hinf, h1 w rfl, g1, goInt, Sem.run_pure]
          have hS' := hS.set (o' := .cells (splice cs o l) true) hb rfl hr g2 g3 g4
          cases hd with
          | slEx hr' => rw [hr] at hr'; cases hr'; exact ⟨_, _, _, ρ, w', key, .int _ _, hK, hS', RenLe.refl ρ, g5⟩
          | slZ => exact absurd (by show Nat.min n 0 = 0; exact Nat.min_zero n) h0
        · exact h.elim
    · exact h.elim
  · exact h.elim

def aclear (P : Program) (argTypes : Array TypeId) (x : Value) (H : AH) (K : Value → AH → Prop) : Prop :=
  match (argTypes[0]?).bind (elemOf? P), x with
  | some elem, .slice none 0 0 => K undef H
  | some elem, .slice (some ⟨b, o, _⟩) n _ =>
    if n = 0 then K undef H
    else match azero P elem, H.blk b with
      | some z, some (.cells cs true) => z.all okCell = true ∧ o + (zrow z n).length ≤ cs.length ∧ K undef (H.set b (.cells (splice cs o (zrow z n)) true))
      | _, _ => False
  | _, _ => False

theorem aclear_good {argTypes : Array TypeId} {ty : TypeId} {x x' : Value} (hS : Sim B ρ H w) (hx : VR ρ x x') (h : aclear P argTypes x H K) :
    Yield P B ρ w K (Builtin.clear_ argTypes ty #[x']) := by
  unfold aclear at h
  split at h
  · rename_i elem hT
    obtain ⟨T, hT0, hT1⟩ := Option.bind_eq_some_iff.1 hT
    have hu := elemOf?_some hT1
    cases hx
    refine Yield.pure (v := undef) (v' := undef) ?_ hS VR.und h
    simp [Builtin.clear_, hT0, run_underlying hu, undef]
  · rename_i elem b o sp n cap hT
    obtain ⟨T, hT0, hT1⟩ := Option.bind_eq_some_iff.1 hT
    have hu := elemOf?_some hT1
    split at h
    · rename_i h0; subst h0
      refine Yield.pure (v := undef) (v' := undef) ?_ hS VR.und h
      cases hx <;> simp [Builtin.clear_, hT0, run_underlying hu, undef]
    · rename_i h0
      split at h
      · rename_i zl cs hz hb
        obtain ⟨hok, hle, hK⟩ := h
        obtain ⟨z, hz1, hz2, hz3⟩ := azero_some (ρ := ρ) hz
        obtain ⟨r, hr, hat⟩ := hS.get b _ hb
        obtain ⟨w', g1, g2, g3, g4, g5⟩ := CellsAt.write hat hle (LR.zrow hz3 n) (List.all_eq_true.1 (zrow_all hok n)) P
        have key : ∀ {dc : Nat}, (Builtin.clear_ argTypes ty #[.slice (some ⟨r.blk, r.sh + o, none⟩) n dc]).run P w = .ok undef w' := by
          intro dc
          have hzc : (Builtin.zeroCells z.cells n).toList = zrow z.cells.toList n := by rw [Builtin.zeroCells, range_row]
          obtain ⟨m, rfl⟩ : ∃ m, n = m + 1 := ⟨n - 1, by omega⟩
          simp only [Builtin.clear_, hT0, List.getElem?_toArray, List.getElem?_cons_zero, Sem.run_bind, run_underlying hu, Result.andThen_ok, tzero_run hz1, hzc, g1, Sem.run_pure, undef]
        have hS' := hS.set (o' := .cells (splice cs o (zrow zl n)) true) hb rfl hr g2 g3 g4
        cases hx with
        | slEx hr' => rw [hr] at hr'; cases hr'; exact ⟨_, _, _, ρ, w', key, VR.und, hK, hS', RenLe.refl ρ, g5⟩
        | slZ => exact absurd rfl h0
      · exact h.elim
  · exact h.elim

def alenB (P : Program) (argTypes : Array TypeId) (x : Value) : Option Value :=
  match (argTypes[0]?).bind P.underlying, x with
  | some .string, .string s => some (.int .i64 s.size)
  | some (.array n _), _ => some (.int .i64 n)
  | some (.slice _), .slice _ n _ => some (.int .i64 n)
  | some (.slice _), .func (.methodOf n _) _ _ => some (.int .i64 n)
  | some (.pointer arr), _ =>
    match P.underlying arr with
    | some (.array n _) => some (.int .i64 n)
    | _ => none
  | _, _ => none

theorem alenB_good {argTypes : Array TypeId} {ty : TypeId} {x x' r : Value} (h : alenB P argTypes x = some r) (hx : VR ρ x x') (w : World) :
    (Builtin.len_ argTypes ty #[x']).run P w = .ok r w ∧ VR ρ r r := by
  unfold alenB at h
  split at h
  · rename_i s hT
    obtain ⟨T, hT0, hu⟩ := Option.bind_eq_some_iff.1 hT
    simp only [Option.some.injEq] at h; subst h
    cases hx
    exact ⟨by simp [Builtin.len_, hT0, run_underlying hu, goInt], .int _ _⟩
  · rename_i n e hT
    obtain ⟨T, hT0, hu⟩ := Option.bind_eq_some_iff.1 hT
    simp only [Option.some.injEq] at h; subst h
    exact ⟨by simp [Builtin.len_, hT0, run_underlying hu, goInt], .int _ _⟩
  · rename_i e a n c hT
    obtain ⟨T, hT0, hu⟩ := Option.bind_eq_some_iff.1 hT
    simp only [Option.some.injEq] at h; subst h
    refine ⟨?_, .int _ _⟩
    cases hx <;> simp [Builtin.len_, hT0, run_underlying hu, goInt]
  · rename_i e n nm cs c0 hT
    obtain ⟨T, hT0, hu⟩ := Option.bind_eq_some_iff.1 hT
    simp only [Option.some.injEq] at h; subst h
    refine ⟨?_, .int _ _⟩
    cases hx with
    | func _ hm => cases hm
    | frzS => simp [Builtin.len_, hT0, run_underlying hu, goInt]
    | frzN => simp [Builtin.len_, hT0, run_underlying hu, goInt]
    | frzZ => simp [Builtin.len_, hT0, run_underlying hu, goInt]
  · rename_i arr hT
    obtain ⟨T, hT0, hu⟩ := Option.bind_eq_some_iff.1 hT
    split at h
    · rename_i n e hu2
      simp only [Option.some.injEq] at h; subst h
      exact ⟨by simp [Builtin.len_, hT0, run_underlying hu, run_underlying hu2, goInt], .int _ _⟩
    · simp at h
  · simp at h

def acapB (P : Program) (argTypes : Array TypeId) (x : Value) : Option Value :=
  match (argTypes[0]?).bind P.underlying, x with
  | some (.slice _), .slice none 0 0 => some (.int .i64 0)
  | some (.slice _), .slice (some ⟨_, _, some 0⟩) _ c => some (.int .i64 c)
  | _, _ => none

theorem acapB_good {argTypes : Array TypeId} {ty : TypeId} {x x' r : Value} (h : acapB P argTypes x = some r) (hx : VR ρ x x') (w : World) :
    (Builtin.cap_ argTypes ty #[x']).run P w = .ok r w ∧ VR ρ r r := by
  unfold acapB at h
  split at h
  · rename_i e hT
    obtain ⟨T, hT0, hu⟩ := Option.bind_eq_some_iff.1 hT
    simp only [Option.some.injEq] at h; subst h
    cases hx
    exact ⟨by simp [Builtin.cap_, hT0, run_underlying hu, goInt], .int _ _⟩
  · rename_i e b o n c hT
    obtain ⟨T, hT0, hu⟩ := Option.bind_eq_some_iff.1 hT
    simp only [Option.some.injEq] at h; subst h
    refine ⟨?_, .int _ _⟩
    cases hx <;> simp [Builtin.cap_, hT0, run_underlying hu, goInt]
  · simp at h

def amm2 (mx : Bool) : Value → Value → Option Value
  | .int k x, .int _ y => some (.int k (if mx then (if y > x then y else x) else (if y < x then y else x)))
  | _, _ => none

def amm (mx : Bool) : List Value → Option Value
  | [a, b] => amm2 mx a b
  | [a, b, c] => (amm2 mx a b).bind fun v => amm2 mx v c
  | _ => none

theorem amm2_max {a b a' b' r : Value} (h : amm2 true a b = some r) (ha : VR ρ a a') (hb : VR ρ b b') (w : World) : (Builtin.max2 a' b').run P w = .ok r w ∧ VR ρ r r := by
  unfold amm2 at h
  split at h
  · cases ha; cases hb
    simp only [Option.some.injEq] at h; subst h
    exact ⟨by simp [Builtin.max2], .int _ _⟩
  · simp at h

theorem amm2_min {a b a' b' r : Value} (h : amm2 false a b = some r) (ha : VR ρ a a') (hb : VR ρ b b') (w : World) : (Builtin.min2 a' b').run P w = .ok r w ∧ VR ρ r r := by
  unfold amm2 at h
  split at h
  · cases ha; cases hb
    simp only [Option.some.injEq] at h; subst h
    exact ⟨by simp [Builtin.min2], .int _ _⟩
  · simp at h

theorem amm_max {l l' : List Value} {r : Value} (h : amm true l = some r) (hl : LR ρ l l') (at_ : Array TypeId) (ty : TypeId) (w : World) : (Builtin.max_ at_ ty l'.toArray).run P w = .ok r w ∧ VR ρ r r := by
  unfold amm at h
  split at h
  · obtain ⟨a', b', rfl⟩ : ∃ a' b', l' = [a', b'] := by
      match l', hl with
      | [a', b'], _ => exact ⟨a', b', rfl⟩
    obtain ⟨h1, h2⟩ := amm2_max (P := P) h hl.1 hl.2.1 w
    exact ⟨by simp [Builtin.max_, h1], h2⟩
  · obtain ⟨a', b', c', rfl⟩ : ∃ a' b' c', l' = [a', b', c'] := by
      match l', hl with
      | [a', b', c'], _ => exact ⟨a', b', c', rfl⟩
    obtain ⟨v, hv, h⟩ := Option.bind_eq_some_iff.1 h
    obtain ⟨h1, h2⟩ := amm2_max (P := P) hv hl.1 hl.2.1 w
    obtain ⟨h3, h4⟩ := amm2_max (P := P) h h2 hl.2.2.1 w
    exact ⟨by simp [Builtin.max_, h1, h3], h4⟩
  · simp at h

theorem amm_min {l l' : List Value} {r : Value} (h : amm false l = some r) (hl : LR ρ l l') (at_ : Array TypeId) (ty : TypeId) (w : World) : (Builtin.min_ at_ ty l'.toArray).run P w = .ok r w ∧ VR ρ r r := by
  unfold amm at h
  split at h
  · obtain ⟨a', b', rfl⟩ : ∃ a' b', l' = [a', b'] := by
      match l', hl with
      | [a', b'], _ => exact ⟨a', b', rfl⟩
    obtain ⟨h1, h2⟩ := amm2_min (P := P) h hl.1 hl.2.1 w
    exact ⟨by simp [Builtin.min_, h1], h2⟩
  · obtain ⟨a', b', c', rfl⟩ : ∃ a' b' c', l' = [a', b', c'] := by
      match l', hl with
      | [a', b', c'], _ => exact ⟨a', b', c', rfl⟩
    obtain ⟨v, hv, h⟩ := Option.bind_eq_some_iff.1 h
    obtain ⟨h1, h2⟩ := amm2_min (P := P) hv hl.1 hl.2.1 w
    obtain ⟨h3, h4⟩ := amm2_min (P := P) h h2 hl.2.2.1 w
    exact ⟨by simp [Builtin.min_, h1, h3], h4⟩
  · simp at h

end
end Go.Proofs.YtmknkpcdfkpobaaA
