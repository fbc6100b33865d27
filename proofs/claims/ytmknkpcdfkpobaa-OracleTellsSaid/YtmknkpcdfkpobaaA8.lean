/- append, copy and the rest of the builtins, as abstract operations. -/
import Derived.Test.YtmknkpcdfkpobaaA7
set_option linter.unusedVariables false
set_option linter.unusedSimpArgs false
namespace Go.Proofs.YtmknkpcdfkpobaaA
open Go.RowKit

section
variable {P : Program} {B : Nat} {ρ : Ren} {H : AH} {w : World} {K : Value → AH → Prop}

/-- What an operation that yields a value comes to. -/
def Yield (P : Program) (B : Nat) (ρ : Ren) (w : World) (K : Value → AH → Prop) (s : Sem Value) : Prop :=
  ∃ v v' H' ρ' w', s.run P w = .ok v' w' ∧ VR ρ' v v' ∧ K v H' ∧ Sim B ρ' H' w' ∧ RenLe ρ ρ' ∧ Below B w w'

theorem Yield.pure {s : Sem Value} {v v' : Value} (hs : s.run P w = .ok v' w) (hS : Sim B ρ H w) (hv : VR ρ v v') (hK : K v H) : Yield P B ρ w K s :=
  ⟨v, v', H, ρ, w, hs, hv, hK, hS, RenLe.refl ρ, Below.refl B w⟩

theorem acells_length {size n : Nat} {x : Value} {l : List Value} (h : acells H size n x = some l) : l.length = n * size := by
  unfold acells at h
  split at h
  · split at h
    · rename_i h0; simp only [Option.some.injEq] at h; subst h; simp [h0]
    · simp at h
  · split at h
    · rename_i h0; simp only [Option.some.injEq] at h; subst h; simp [h0]
    · split at h
      · simp at h
      · split at h
        · split at h
          · simp only [Option.some.injEq] at h; subst h; simp; omega
          · simp at h
        · simp at h
  · split at h
    · rename_i hc
      simp only [Option.some.injEq] at h; subst h
      simp only [List.length_take]; omega
    · simp at h
  · split at h
    · rename_i hc
      simp only [Option.some.injEq] at h; subst h
      obtain ⟨rfl, hc⟩ := hc
      simp; omega
    · simp at h
  · simp at h

theorem aappz_good {argTypes : Array TypeId} {xT ty : TypeId} {k : IntKind} {s s' x x' : Value} (hS : Sim B ρ H w) (hs : VR ρ s s') (hx : VR ρ x x') (hx0 : argTypes[1]? = some xT) (hx1 : P.underlying xT = some (.int k))
    (h : aappz P ((argTypes[0]?).bind (elemOf? P)) s x H K) : Yield P B ρ w K (Builtin.append_ argTypes ty #[s', x']) := by
  unfold aappz at h
  split at h
  · rename_i elem n b o len cap hT
    obtain ⟨T, hT0, hT1⟩ := Option.bind_eq_some_iff.1 hT
    have hu := elemOf?_some hT1
    cases hx
    split at h
    · rename_i zl hz
      obtain ⟨hn, hsome, hgt, hg⟩ := h
      obtain ⟨inf, hinf⟩ := Option.isSome_iff_exists.1 hsome
      have grow : ∀ {base : Option Addr} {c : Nat}, VR ρ (.slice (some ⟨b, o, some 0⟩) len cap) (.slice base len c) → c < len + n.toNat →
          Yield P B ρ w K (Builtin.append_ argTypes ty #[.slice base len c, .int .i64 n]) := by
        intro base c hsv hgt
        unfold agrow at hg
        split at hg
        · rename_i old zl' hold hz'
          rw [hz] at hz'; cases hz'
          obtain ⟨hzl, hzok, hb0, hb, hK⟩ := hg
          obtain ⟨z, hz1, hz2, hz3⟩ := azero_some (ρ := ρ) hz
          obtain ⟨old', hold1, hold2, hold3, hold4⟩ := acells_run (P := P) hold hS hsv
          obtain ⟨nc, hnc, hnc2, hrun⟩ := append_growZ (P := P) (w := w) (ty := ty) hT0 hx0 hu hx1 hinf hz1 (by rw [← hz3.length, hzl]) hn hgt hb0 hb hold1
          have hok : (old ++ zrow zl n.toNat ++ zrow zl (nc - (len + n.toNat))).all okCell = true := by rw [List.all_append, List.all_append, hold3, zrow_all hzok, zrow_all hzok]; rfl
          obtain ⟨ρ', h1, h2, h3, h4⟩ := alloc_cells (elem := elem) [] hS.drew ((hold2.append (LR.zrow hz3 n.toNat)).append (LR.zrow hz3 (nc - (len + n.toNat)))) hok
          simp only [List.append_nil] at h1 h3 h4
          exact ⟨_, _, _, ρ', _, hrun, .slEx h3, hK nc hnc hnc2, h1, h2, (Below.refl B w).drew.trans h4⟩
        · exact hg.elim
      cases hs with
      | slEx hr => exact grow (.slEx hr) hgt
      | slZ => exact grow .slZ (by omega)
    · exact h.elim
  · exact h.elim

theorem aappend_good {argTypes : Array TypeId} {ty : TypeId} {s s' x x' : Value} (hS : Sim B ρ H w) (hs : VR ρ s s') (hx : VR ρ x x') (h : aappend P argTypes s x H K) :
    Yield P B ρ w K (Builtin.append_ argTypes ty #[s', x']) := by
  unfold aappend at h
  split at h
  · rename_i k hd
    obtain ⟨xT, hx0, hx1⟩ := Option.bind_eq_some_iff.1 hd
    exact aappz_good hS hs hx hx0 hx1 h
  · rename_i elem d n hni hT hd hn
    obtain ⟨T, hT0, hT1⟩ := Option.bind_eq_some_iff.1 hT
    obtain ⟨xT, hx0, hx1⟩ := Option.bind_eq_some_iff.1 hd
    have hu := elemOf?_some hT1
    have hnint : ∀ k, d ≠ .int k := fun k e => hni k e
    obtain ⟨hsome, h⟩ := h
    obtain ⟨inf, hinf⟩ := Option.isSome_iff_exists.1 hsome
    have hlen := fun w => alen_run (P := P) hn hx w
    split at h
    · exact h.elim
    · rename_i new hnew
      have hnl := acells_length hnew
      obtain ⟨new', hnew1, hnew2, hnew3, hnew4⟩ := acells_run (P := P) hnew hS hx
      have room0 : ∀ {base : Option Addr} {len cap : Nat}, n = 0 → len ≤ cap → (Builtin.append_ argTypes ty #[.slice base len cap, x']).run P w = .ok (.slice base len cap) w := by
        intro base len cap hn0 hle
        have hnil : new' = [] := by
          have := hnew2.length
          rw [hnl, hn0, Nat.zero_mul] at this
          exact List.length_eq_zero_iff.1 this.symm
        have := append_room (P := P) (w := w) (ty := ty) (base := base) (len := len) (cap := cap) hT0 hx0 hu hx1 hnint hinf hlen (by omega) (hnew1 w rfl)
        rw [this, hnil, hn0]
        cases base <;> rfl
      -- a new row
      have grow : ∀ {base : Option Addr} {len cap : Nat} {sv : Value}, VR ρ sv (.slice base len cap) → cap < len + n → agrow P elem len n sv new H K →
          Yield P B ρ w K (Builtin.append_ argTypes ty #[.slice base len cap, x']) := by
        intro base len cap sv hsv hgt hg
        unfold agrow at hg
        split at hg
        · rename_i old zl hold hz
          obtain ⟨hzl, hzok, hb0, hb, hK⟩ := hg
          obtain ⟨z, hz1, hz2, hz3⟩ := azero_some (ρ := ρ) hz
          obtain ⟨old', hold1, hold2, hold3, hold4⟩ := acells_run (P := P) hold hS hsv
          obtain ⟨nc, hnc, hnc2, hrun⟩ := append_grow (P := P) (w := w) (ty := ty) hT0 hx0 hu hx1 hnint hinf hz1 hlen hgt hb0 hb hold1 hnew1
          have hok : (old ++ new ++ zrow zl (nc - (len + n))).all okCell = true := by rw [List.all_append, List.all_append, hold3, hnew3, zrow_all hzok]; rfl
          obtain ⟨ρ', h1, h2, h3, h4⟩ := alloc_cells (elem := elem) [] hS.drew ((hold2.append hnew2).append (LR.zrow hz3 (nc - (len + n)))) hok
          simp only [List.append_nil] at h1 h3 h4
          exact ⟨_, _, _, ρ', _, hrun, .slEx h3, hK nc hnc hnc2, h1, h2, (Below.refl B w).drew.trans h4⟩
        · exact hg.elim
      -- in place, within what is known
      have place : ∀ {b o len cap cap' sp : Nat} {r : RB} {cs : List Value} {v' : Value}, ρ b = some r → H.blk b = some (.cells cs true) → len + n ≤ cap' → o + len * P.cellsOf elem + new.length ≤ cs.length →
          VR ρ (.slice (some ⟨b, o, some sp⟩) (len + n) cap) (.slice (some ⟨r.blk, r.sh + o, none⟩) (len + n) cap') →
          K (.slice (some ⟨b, o, some sp⟩) (len + n) cap) (H.set b (.cells (splice cs (o + len * P.cellsOf elem) new) true)) →
          Yield P B ρ w K (Builtin.append_ argTypes ty #[.slice (some ⟨r.blk, r.sh + o, none⟩) len cap', x']) := by
        intro b o len cap cap' sp r cs v' hr hb hle hfit hv hK
        obtain ⟨r', hr', hat⟩ := hS.get b _ hb
        rw [hr] at hr'; cases hr'
        have hap := append_room (P := P) (w := w) (ty := ty) (base := some ⟨r.blk, r.sh + o, none⟩) (len := len) (cap := cap') hT0 hx0 hu hx1 hnint hinf hlen hle (hnew1 w rfl)
        obtain ⟨w', h1, h2, h3, h4, h5⟩ := CellsAt.write hat hfit hnew2 (List.all_eq_true.1 hnew3) P
        dsimp only at hap
        rw [Addr.add_none, Nat.add_assoc, h1] at hap
        exact ⟨_, _, _, ρ, w', hap, hv, hK, hS.set (o' := .cells (splice cs (o + len * P.cellsOf elem) new) true) hb rfl hr h2 h3 h4, RenLe.refl ρ, h5⟩
      split at h
      · cases hs
        split at h
        · rename_i hn0
          exact Yield.pure (room0 hn0 (Nat.le_refl _)) hS .slNil h
        · exact grow .slNil (by omega) h
      · rename_i b o len cap
        split at h
        · rename_i hn0
          cases hs with
          | slEx hr => exact Yield.pure (room0 hn0 h.1) hS (.slEx hr) h.2
          | slZ => exact Yield.pure (room0 hn0 h.1) hS .slZ h.2
        · rename_i hn0
          split at h
          · rename_i hle
            split at h
            · rename_i cs hb
              cases hs with
              | slEx hr => exact place (v' := .nilIface) hr hb hle h.1 (.slEx hr) h.2
              | slZ => omega
            · exact h.elim
          · rename_i hgt
            cases hs with
            | slEx hr => exact grow (.slEx hr) (by omega) h
            | slZ => exact grow (sv := .slice (some ⟨b, o, some 0⟩) 0 0) .slZ (by omega) h
      · exact h.elim
  · exact h.elim

end
end Go.Proofs.YtmknkpcdfkpobaaA
