/- Code: its abstract weakest preconditions, and that they tell of the model's. -/
import Derived.Test.YtmknkpcdfkpobaaB2b
set_option linter.unusedVariables false
set_option linter.unusedSimpArgs false
namespace Go.Proofs.YtmknkpcdfkpobaaA
open Go.RowKit

/-! ### Code -/

inductive AEx where
  | normal
  | exit (id : Nat)
  | ret

def AEx.to : AEx → Exit
  | .normal => .normal
  | .exit id => .exit id
  | .ret => .ret

inductive AC where
  | skip
  | ret
  | exit (id : Nat)
  | ops (l : List AOp)
  | reg (r : RT)
  | seq (a b : AC)
  | cond (c : RX) (a b : AC)
  | block (id : Nat) (a : AC)
  | loop (a : AC)
  | bad

def andThen (K : List Value → AH → Prop) (Q : AEx → List Value → AH → Prop) : AEx → List Value → AH → Prop
  | .normal, env, H => K env H
  | e, env, H => Q e env H

def inBlock (id : Nat) (Q : AEx → List Value → AH → Prop) : AEx → List Value → AH → Prop
  | .exit id', env, H => if id' = id then Q .normal env H else Q (.exit id') env H
  | e, env, H => Q e env H

def wpa (P : Program) : AC → (AEx → List Value → AH → Prop) → List Value → AH → Prop
  | .skip, Q, env, H => Q .normal env H
  | .ret, Q, env, H => Q .ret env H
  | .exit id, Q, env, H => Q (.exit id) env H
  | .ops l, Q, env, H => aops P l env H (Q .normal)
  | .reg r, Q, env, H => areg P r [] env H (Q .normal)
  | .seq a b, Q, env, H => wpa P a (andThen (wpa P b Q) Q) env H
  | .cond c a b, Q, env, H =>
    match c.ev env with
    | .bool t => Branch t (wpa P a Q env H) (wpa P b Q env H)
    | _ => False
  | .block id a, Q, env, H => wpa P a (inBlock id Q) env H
  | .loop a, Q, env, H => ∃ (β : Type) (I : β → List Value → AH → Prop) (μ : β → Nat) (x0 : β), I x0 env H ∧
      ∀ x env H, I x env H → wpa P a (andThen (fun env' H' => ∃ y, I y env' H' ∧ μ y < μ x) Q) env H
  | .bad, _, _, _ => False

def AWp (P : Program) (c : Code) (Q : AEx → List Value → AH → Prop) (env : List Value) (H : AH) : Prop :=
  ∀ B ρ w a, St B ρ env H a w → c.wp P (fun e a' w' => ∃ x : AEx, e = x.to ∧ Reach B ρ w (Q x) a' w') a w

def comp (P : Program) : Code → AC
  | .skip => .skip
  | .ret => .ret
  | .exit id => .exit id
  | .region _ ops false => .ops (ops.toList.map (compOper P ops))
  | .region _ ops true => if P.follows .mixedOrders then .reg (bld P ops (ancT ops) ops.size (Array.replicate ops.size false)) else .bad
  | .seq a b => .seq (comp P a) (comp P b)
  | .cond c a b => .cond (compX c) (comp P a) (comp P b)
  | .block id a => .block id (comp P a)
  | .loop a => .loop (comp P a)
  | _ => .bad

theorem AWp.of_comp {P : Program} : ∀ (c : Code) {Q : AEx → List Value → AH → Prop} {env : List Value} {H : AH}, wpa P (comp P c) Q env H → AWp P c Q env H := by
  intro c
  induction c with
  | skip => intro Q env H h B ρ w a hSt; exact wp_skip ⟨.normal, rfl, env, H, ρ, h, hSt, RenLe.refl ρ, Below.refl B w⟩
  | ret => intro Q env H h B ρ w a hSt; exact wp_ret ⟨.ret, rfl, env, H, ρ, h, hSt, RenLe.refl ρ, Below.refl B w⟩
  | exit id => intro Q env H h B ρ w a hSt; exact wp_exit ⟨.exit id, rfl, env, H, ρ, h, hSt, RenLe.refl ρ, Below.refl B w⟩
  | region id ops draw =>
    intro Q env H h B ρ w a hSt
    cases draw with
    | true =>
      simp only [comp] at h
      split at h
      · rename_i hm
        exact areg_region hm hSt h fun a' w' hr => ⟨.normal, rfl, hr⟩
      · exact h.elim
    | false =>
      refine wp_region (aops_wp (B := B) (ops := ops) (List.range ops.size) hSt (K := Q .normal) (by rw [filterMap_range]; exact h) ?_)
      intro a' w' hr
      exact ⟨.normal, rfl, hr⟩
  | seq x y ihx ihy =>
    intro Q env H h B ρ w a hSt
    refine wp_seq (wp_mono (ihx h B ρ w a hSt) ?_)
    rintro e a' w' ⟨x', rfl, env', H', ρ', hQ, hSt', hρ, hB⟩
    cases x' with
    | normal =>
      refine wp_mono (ihy hQ B ρ' w' a' hSt') ?_
      rintro e a'' w'' ⟨x'', rfl, hr⟩
      exact ⟨x'', rfl, hr.trans hρ hB⟩
    | exit id => exact ⟨.exit id, rfl, env', H', ρ', hQ, hSt', hρ, hB⟩
    | ret => exact ⟨.ret, rfl, env', H', ρ', hQ, hSt', hρ, hB⟩
  | cond c x y ihx ihy =>
    intro Q env H h B ρ w a hSt
    simp only [comp, wpa, compX_ev] at h
    split at h
    · rename_i t ht
      have hv := VR.eval hSt.env c
      rw [ht] at hv
      generalize hcv : a.eval c = cv at hv
      cases hv
      refine wp_cond hcv ?_
      cases t with
      | true => exact ihx (h.1 rfl) B ρ w a hSt
      | false => exact ihy (h.2 rfl) B ρ w a hSt
    · exact h.elim
  | block id x ih =>
    intro Q env H h B ρ w a hSt
    refine wp_block (wp_mono (ih h B ρ w a hSt) ?_)
    rintro e a' w' ⟨x', rfl, env', H', ρ', hQ, hrest⟩
    cases x' with
    | normal => exact ⟨.normal, rfl, env', H', ρ', hQ, hrest⟩
    | exit id' =>
      simp only [AEx.to, Exit.inBlock]
      by_cases hid : id' = id
      · rw [if_pos hid]
        simp only [inBlock, if_pos hid] at hQ
        exact ⟨.normal, rfl, env', H', ρ', hQ, hrest⟩
      · rw [if_neg hid]
        simp only [inBlock, if_neg hid] at hQ
        exact ⟨.exit id', rfl, env', H', ρ', hQ, hrest⟩
    | ret => exact ⟨.ret, rfl, env', H', ρ', hQ, hrest⟩
  | loop x ih =>
    intro Q env H h B ρ w a hSt
    obtain ⟨β, I, μ, x0, hI, hround⟩ := h
    -- by induction on the measure, over abstract states
    have key : ∀ n x0 env' H', μ x0 = n → I x0 env' H' → ∀ ρ' a' w', St B ρ' env' H' a' w' → RenLe ρ ρ' → Below B w w' →
        ∀ (b : Frame) (k : List Item) (cs : List Frame), ∃ e a'' w'', (∃ x' : AEx, e = x'.to ∧ Reach B ρ w (Q x') a'' w'') ∧ Arrives P (lone (b.at a' (.code x :: .inLoop x :: k)) cs w') b k cs e a'' w'' := by
      intro n
      induction n using Nat.strongRecOn with
      | _ n ihn =>
        intro x0 env' H' hn hI' ρ' a' w' hSt' hρ hB b k cs
        obtain ⟨e, a₁, w₁, ⟨x', rfl, env₁, H₁, ρ₁, hQ, hSt₁, hρ₁, hB₁⟩, harr⟩ := ih (hround x0 env' H' hI') B ρ' w' a' hSt' b (.inLoop x :: k) cs
        cases x' with
        | normal =>
          obtain ⟨y, hI₁, hlt⟩ := hQ
          obtain ⟨e₂, a₂, w₂, hq₂, harr₂⟩ := ihn (μ y) (hn ▸ hlt) y env₁ H₁ rfl hI₁ ρ₁ a₁ w₁ hSt₁ (hρ.trans hρ₁) (hB.trans hB₁) b k cs
          exact ⟨e₂, a₂, w₂, hq₂, .of_steps (Steps.trans harr (.one step_inLoop)) harr₂⟩
        | exit id => exact ⟨_, a₁, w₁, ⟨.exit id, rfl, env₁, H₁, ρ₁, hQ, hSt₁, hρ.trans hρ₁, hB.trans hB₁⟩, .pass (x := .inLoop x) rfl (fun _ _ => .inl (by simp [AEx.to])) harr⟩
        | ret => exact ⟨_, a₁, w₁, ⟨.ret, rfl, env₁, H₁, ρ₁, hQ, hSt₁, hρ.trans hρ₁, hB.trans hB₁⟩, .pass (x := .inLoop x) rfl (fun _ _ => .inl (by simp [AEx.to])) harr⟩
    intro b k cs
    obtain ⟨e, a', w', hq, harr⟩ := key _ x0 env H rfl hI ρ a w hSt (RenLe.refl ρ) (Below.refl B w) b k cs
    exact ⟨e, a', w', hq, .of_steps (.one step_loop) harr⟩
  | rangeFunc => intro Q env H h; exact (h : False).elim
  | scope => intro Q env H h; exact (h : False).elim
  | label => intro Q env H h; exact (h : False).elim
  | goto => intro Q env H h; exact (h : False).elim
  | refuse => intro Q env H h; exact (h : False).elim

section
variable {P : Program}

theorem wpa_mono : ∀ (c : AC) {Q Q' : AEx → List Value → AH → Prop} {env : List Value} {H : AH}, (∀ x e H', Q x e H' → Q' x e H') → wpa P c Q env H → wpa P c Q' env H
  | .skip, _, _, _, _, hq, h => hq _ _ _ h
  | .ret, _, _, _, _, hq, h => hq _ _ _ h
  | .exit _, _, _, _, _, hq, h => hq _ _ _ h
  | .ops l, _, _, _, _, hq, h => aops_mono l (hq _) h
  | .reg r, _, _, _, _, hq, h => areg_mono r (hq _) h
  | .seq a b, _, _, _, _, hq, h => wpa_mono a (fun x e H' hx => by
      cases x with
      | normal => exact wpa_mono b hq hx
      | exit id => exact hq _ _ _ hx
      | ret => exact hq _ _ _ hx) h
  | .cond c a b, Q, Q', env, H, hq, h => by
    simp only [wpa] at *
    split at h
    · exact Branch.mono h (wpa_mono a hq) (wpa_mono b hq)
    · exact h.elim
  | .block id a, _, _, _, _, hq, h => wpa_mono a (fun x e H' hx => by
      cases x with
      | normal => exact hq _ _ _ hx
      | exit id' =>
        simp only [inBlock] at *
        split at hx
        · rename_i h0; rw [if_pos h0]; exact hq _ _ _ hx
        · rename_i h0; rw [if_neg h0]; exact hq _ _ _ hx
      | ret => exact hq _ _ _ hx) h
  | .loop a, _, _, _, _, hq, h => by
    obtain ⟨β, I, μ, x0, h0, h1⟩ := h
    refine ⟨β, I, μ, x0, h0, fun x env H hI => wpa_mono a (fun x e H' hx => ?_) (h1 x env H hI)⟩
    cases x with
    | normal => exact hx
    | exit id => exact hq _ _ _ hx
    | ret => exact hq _ _ _ hx
  | .bad, _, _, _, _, _, h => h.elim

end

end Go.Proofs.YtmknkpcdfkpobaaA
