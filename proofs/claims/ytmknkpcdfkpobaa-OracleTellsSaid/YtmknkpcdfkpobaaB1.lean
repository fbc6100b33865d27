/- What goes on may be weakened. -/
import Derived.Test.YtmknkpcdfkpobaaA12
set_option linter.unusedVariables false
set_option linter.unusedSimpArgs false
namespace Go.Proofs.YtmknkpcdfkpobaaA
open Go.RowKit

/-! ### Monotony -/

section
variable {P : Program}

theorem okv_monoK {o : Option Value} {H : AH} {K K' : Value → AH → Prop} (hk : ∀ v H', K v H' → K' v H') (h : okv o H K) : okv o H K' := by
  obtain ⟨v, hv, hK⟩ := okv_some h
  rw [hv]; exact hk _ _ hK

theorem zK_mono {H : AH} {cs : List Value} {v u : Value} {K K' : Value → AH → Prop} (hk : ∀ v H', K v H' → K' v H') (h : zK cs v u H K) : zK cs v u H K' := h.elim (fun h => .inl (hk _ _ h)) (fun h => .inr ⟨h.1, hk _ _ h.2⟩)
theorem abox_mono {H : AH} {cs : List Value} {K K' : Value → AH → Prop} (hk : ∀ v H', K v H' → K' v H') (h : abox H cs K) : abox H cs K' := ⟨h.1, zK_mono hk h.2⟩
theorem anew_mono {H : AH} {cs : List Value} {K K' : Value → AH → Prop} (hk : ∀ v H', K v H' → K' v H') (h : anew H cs K) : anew H cs K' := ⟨h.1, hk _ _ h.2⟩

theorem astore_mono {t : TypeId} {H : AH} {b o : Nat} {v : Value} {K K' : AH → Prop} (hk : ∀ H', K H' → K' H') (h : astore P t H b o v K) : astore P t H b o v K' := by
  unfold astore at *
  split at h
  · exact ⟨h.1, h.2.1, h.2.2.1, h.2.2.2.1, hk _ h.2.2.2.2⟩
  · exact h.elim

theorem rstore_mono {n : Nat} {H : AH} {b o : Nat} {v : Value} {K K' : AH → Prop} (hk : ∀ H', K H' → K' H') (h : rstore H n b o v K) : rstore H n b o v K' := by
  unfold rstore at *
  split at h
  · exact h.mono (hk _)
  · exact h.elim

theorem rquo_mono {rem : Bool} {x y : Value} {H : AH} {K K' : Value → AH → Prop} (hk : ∀ v H', K v H' → K' v H') (h : rquo rem x y H K) : rquo rem x y H K' := by
  unfold rquo at *
  split at h
  · exact h.mono (hk _ _)
  · exact h.elim

theorem rgrow_mono {z : List Value} {bytes len n : Nat} {s : Value} {new : List Value} {H : AH} {K K' : Value → AH → Prop} (hk : ∀ v H', K v H' → K' v H') (h : rgrow z bytes len n s new H K) : rgrow z bytes len n s new H K' := by
  unfold rgrow at *
  split at h
  · exact h.mono (fun h c h1 h2 => hk _ _ (h c h1 h2))
  · exact h.elim

theorem rapp_mono {z : List Value} {bytes : Nat} {s x : Value} {H : AH} {K K' : Value → AH → Prop} (hk : ∀ v H', K v H' → K' v H') (h : rapp z bytes s x H K) : rapp z bytes s x H K' := by
  unfold rapp at *
  split at h
  · exact h.elim
  · split at h
    · exact h.elim
    · split at h
      · split at h
        · rename_i h0; rw [if_pos h0]; exact hk _ _ h
        · rename_i h0; rw [if_neg h0]; exact rgrow_mono hk h
      · split at h
        · rename_i h0; rw [if_pos h0]; exact ⟨h.1, hk _ _ h.2⟩
        · rename_i h0; rw [if_neg h0]
          split at h
          · rename_i h1; rw [if_pos h1]
            split at h
            · exact ⟨h.1, hk _ _ h.2⟩
            · exact h.elim
          · rename_i h1; rw [if_neg h1]; exact rgrow_mono hk h
      · exact h.elim

theorem rappz_mono {z : List Value} {bytes : Nat} {s x : Value} {H : AH} {K K' : Value → AH → Prop} (hk : ∀ v H', K v H' → K' v H') (h : rappz z bytes s x H K) : rappz z bytes s x H K' := by
  unfold rappz at *
  split at h
  · exact h.mono (rgrow_mono hk)
  · exact h.elim

theorem rcopy_mono {sz : Nat} {d x : Value} {H : AH} {K K' : Value → AH → Prop} (hk : ∀ v H', K v H' → K' v H') (h : rcopy sz d x H K) : rcopy sz d x H K' := by
  unfold rcopy at *
  split at h
  · split at h
    · exact hk _ _ h
    · split at h
      · rename_i h0; rw [if_pos h0]; exact hk _ _ h
      · rename_i h0; rw [if_neg h0]
        split at h
        · exact ⟨h.1, hk _ _ h.2⟩
        · exact h.elim
    · exact h.elim
  · exact h.elim

theorem rclear_mono {z : List Value} {x : Value} {H : AH} {K K' : Value → AH → Prop} (hk : ∀ v H', K v H' → K' v H') (h : rclear z x H K) : rclear z x H K' := by
  unfold rclear at *
  split at h
  · exact hk _ _ h
  · split at h
    · rename_i h0; rw [if_pos h0]; exact hk _ _ h
    · rename_i h0; rw [if_neg h0]
      split at h
      · exact ⟨h.1, hk _ _ h.2⟩
      · exact h.elim
  · exact h.elim

theorem rbsl_mono {z : List Value} {sz len : Nat} {parts : List (Nat × Value)} {H : AH} {K K' : Value → AH → Prop} (hk : ∀ v H', K v H' → K' v H') (h : rbsl z sz len parts H K) : rbsl z sz len parts H K' := by
  unfold rbsl at *
  split at h
  · exact ⟨h.1, zK_mono hk h.2⟩
  · exact h.elim

theorem rsl_mono {sz : Nat} {x : Value} {lo hi mx : Option Value} {H : AH} {K K' : Value → AH → Prop} (hk : ∀ v H', K v H' → K' v H') (h : rsl sz x lo hi mx H K) : rsl sz x lo hi mx H K' := by
  unfold rsl at *
  split at h
  · split at h
    · exact h.mono (hk _ _)
    · exact h.elim
  · split at h
    · exact h.mono (hk _ _)
    · exact h.elim
  · split at h
    · exact h.mono (hk _ _)
    · exact h.elim
  · exact h.elim

theorem rmks_mono {z : List Value} {bytes : Nat} {l c : Value} {H : AH} {K K' : Value → AH → Prop} (hk : ∀ v H', K v H' → K' v H') (h : rmks z bytes l c H K) : rmks z bytes l c H K' := by
  unfold rmks at *
  split at h
  · exact h.mono (hk _ _)
  · exact h.elim

theorem relem_mono {x i : Value} {len sz : Nat} {H : AH} {K K' : Value → AH → Prop} (hk : ∀ v H', K v H' → K' v H') (h : relem x len sz i H K) : relem x len sz i H K' := by
  unfold relem at *
  split at h
  · exact h.mono (hk _ _)
  · exact h.mono (hk _ _)
  · exact h.elim

theorem agrow_mono {elem : TypeId} {len n : Nat} {s : Value} {new : List Value} {H : AH} {K K' : Value → AH → Prop} (hk : ∀ v H', K v H' → K' v H') (h : agrow P elem len n s new H K) : agrow P elem len n s new H K' := by
  unfold agrow at *
  split at h
  · exact ⟨h.1, h.2.1, h.2.2.1, h.2.2.2.1, fun c h1 h2 => hk _ _ (h.2.2.2.2 c h1 h2)⟩
  · exact h.elim

theorem aappz_mono {o : Option TypeId} {s x : Value} {H : AH} {K K' : Value → AH → Prop} (hk : ∀ v H', K v H' → K' v H') (h : aappz P o s x H K) : aappz P o s x H K' := by
  unfold aappz at *
  split at h
  · split at h
    · exact ⟨h.1, h.2.1, h.2.2.1, agrow_mono hk h.2.2.2⟩
    · exact h.elim
  · exact h.elim

theorem aappend_mono {ats : Array TypeId} {s x : Value} {H : AH} {K K' : Value → AH → Prop} (hk : ∀ v H', K v H' → K' v H') (h : aappend P ats s x H K) : aappend P ats s x H K' := by
  unfold aappend at *
  split at h
  · exact aappz_mono hk h
  · refine ⟨h.1, ?_⟩
    have h := h.2
    split at h
    · exact h.elim
    · split at h
      · split at h
        · rename_i h0; rw [if_pos h0]; exact hk _ _ h
        · rename_i h0; rw [if_neg h0]; exact agrow_mono hk h
      · split at h
        · rename_i h0; rw [if_pos h0]; exact ⟨h.1, hk _ _ h.2⟩
        · rename_i h0; rw [if_neg h0]
          split at h
          · rename_i h1; rw [if_pos h1]
            split at h
            · exact ⟨h.1, hk _ _ h.2⟩
            · exact h.elim
          · rename_i h1; rw [if_neg h1]; exact agrow_mono hk h
      · exact h.elim
  · exact h.elim

theorem acopy_mono {ats : Array TypeId} {d x : Value} {H : AH} {K K' : Value → AH → Prop} (hk : ∀ v H', K v H' → K' v H') (h : acopy P ats d x H K) : acopy P ats d x H K' := by
  unfold acopy at *
  split at h
  · refine ⟨h.1, ?_⟩
    have h := h.2
    split at h
    · exact hk _ _ h
    · split at h
      · rename_i h0; rw [if_pos h0]; exact hk _ _ h
      · rename_i h0; rw [if_neg h0]
        split at h
        · exact ⟨h.1, hk _ _ h.2⟩
        · exact h.elim
    · exact h.elim
  · exact h.elim

theorem aclear_mono {ats : Array TypeId} {x : Value} {H : AH} {K K' : Value → AH → Prop} (hk : ∀ v H', K v H' → K' v H') (h : aclear P ats x H K) : aclear P ats x H K' := by
  unfold aclear at *
  split at h
  · exact hk _ _ h
  · split at h
    · rename_i h0; rw [if_pos h0]; exact hk _ _ h
    · rename_i h0; rw [if_neg h0]
      split at h
      · exact ⟨h.1, h.2.1, hk _ _ h.2.2⟩
      · exact h.elim
  · exact h.elim

theorem abuiltin_mono {b : Builtin} {ats : Array TypeId} {l : List Value} {H : AH} {K K' : Value → AH → Prop} (hk : ∀ v H', K v H' → K' v H') (h : abuiltin P b ats l H K) : abuiltin P b ats l H K' := by
  unfold abuiltin at *
  split at h
  · exact aappend_mono hk h
  · exact acopy_mono hk h
  · exact aclear_mono hk h
  · exact okv_monoK hk h
  · exact okv_monoK hk h
  · exact okv_monoK hk h
  · exact okv_monoK hk h
  · exact h.elim

theorem abuildSlice_mono {t : TypeId} {len : Nat} {parts : List (Nat × Value)} {H : AH} {K K' : Value → AH → Prop} (hk : ∀ v H', K v H' → K' v H') (h : abuildSlice P t len parts H K) : abuildSlice P t len parts H K' := by
  unfold abuildSlice at *
  split at h
  · exact h.elim
  · split at h
    · exact h.elim
    · refine ⟨h.1, h.2.1, ?_⟩
      have h := h.2.2
      split at h
      · exact ⟨h.1, zK_mono hk h.2⟩
      · exact h.elim

theorem amakeSlice_mono {t : TypeId} {l c : Value} {H : AH} {K K' : Value → AH → Prop} (hk : ∀ v H', K v H' → K' v H') (h : amakeSlice P t l c H K) : amakeSlice P t l c H K' := by
  unfold amakeSlice at *
  split at h
  · split at h
    · exact h.elim
    · exact ⟨h.1, h.2.1, h.2.2.1, h.2.2.2.1, h.2.2.2.2.1, h.2.2.2.2.2.1, hk _ _ h.2.2.2.2.2.2⟩
  · exact h.elim

theorem aop_mono {ev : Operand → Value} {o : Op} {H : AH} {K K' : Value → AH → Prop} (hk : ∀ v H', K v H' → K' v H') (h : aop P ev o H K) : aop P ev o H K' := by
  unfold aop at *
  split at h
  case h_3 =>
    split at h
    · split at h
      · rename_i h0; rw [if_pos h0]; exact hk _ _ h
      · rename_i h0; rw [if_neg h0]; exact hk _ _ h
    · exact h.elim
  all_goals first
    | exact hk _ _ h
    | exact okv_monoK hk h
    | exact anew_mono hk h
    | exact abox_mono hk h
    | exact abuildSlice_mono hk h
    | exact amakeSlice_mono hk h
    | exact abuiltin_mono hk h
    | exact ⟨h.1, hk _ _ h.2⟩
    | exact h.elim
    | (split at h <;> first | exact anew_mono hk h | exact okv_monoK hk h | exact astore_mono (hk _) h | exact h.elim)

theorem aopc_mono {ev : Operand → Value} {o : Op} {H : AH} {K K' : Value → AH → Prop} (hk : ∀ v H', K v H' → K' v H') (h : aopc P ev o H K) : aopc P ev o H K' := by
  unfold aopc at *
  split at h
  · split at h
    · exact aop_mono hk h
    · split at h
      · split at h
        · rename_i h0; rw [if_pos h0]; exact h.mono hk
        · rename_i h0; rw [if_neg h0]; exact h.mono hk
      · exact h.elim
    · split at h
      · exact ⟨h.1, h.2.mono hk⟩
      · exact h.elim
  · exact aop_mono hk h

theorem rslA_mono {n sz : Nat} {x : Value} {lo hi : Option Value} {H : AH} {K K' : Value → AH → Prop} (hk : ∀ v H', K v H' → K' v H') (h : rslA n sz x lo hi H K) : rslA n sz x lo hi H K' := by
  unfold rslA at *
  split at h
  · exact h.mono (hk _ _)
  · exact h.mono (hk _ _)
  · exact h.elim

theorem rcallv_mono {f : Value} {args : List Value} {H : AH} {K K' : Value → AH → Prop} (hk : ∀ v H', K v H' → K' v H') (h : rcallv P f args H K) : rcallv P f args H K' := by
  unfold rcallv at *
  split at h
  · exact ⟨h.1, h.2.mono hk⟩
  · exact h.elim

theorem rinv_mono {r : Value} {name : String} {args : List Value} {H : AH} {K K' : Value → AH → Prop} (hk : ∀ v H', K v H' → K' v H') (h : rinv P r name args H K) : rinv P r name args H K' := by
  unfold rinv at *
  split at h
  · obtain ⟨g, h1, h2, h3⟩ := h; exact ⟨g, h1, h2, h3.mono hk⟩
  · exact h.elim

theorem rop_mono {env : List Value} {r : ROp} {H : AH} {K K' : Value → AH → Prop} (hk : ∀ v H', K v H' → K' v H') (h : rop P env r H K) : rop P env r H K' := by
  unfold rop at *
  split at h
  case h_3 =>
    split at h
    · exact Branch.mono h (hk _ _) (hk _ _)
    · exact h.elim
  all_goals first
    | exact hk _ _ h
    | exact okv_monoK hk h
    | exact relem_mono hk h
    | exact rquo_mono hk h
    | exact rapp_mono hk h
    | exact rappz_mono hk h
    | exact rbsl_mono hk h
    | exact rcopy_mono hk h
    | exact rclear_mono hk h
    | exact rsl_mono hk h
    | exact rslA_mono hk h
    | exact rcallv_mono hk h
    | exact rinv_mono hk h
    | exact rmks_mono hk h
    | exact anew_mono hk h
    | exact abox_mono hk h
    | exact aopc_mono hk h
    | exact ACalls.mono h hk
    | exact AExt.mono h hk
    | exact ⟨h.1, hk _ _ h.2⟩
    | (split at h <;> first | exact okv_monoK hk h | exact rstore_mono (hk _) h | exact hk _ _ h | exact h.elim)

theorem astep_mono {env : List Value} {H : AH} {a : AOp} {K K' : List Value → AH → Prop} (hk : ∀ e H', K e H' → K' e H') (h : astep P env H a K) : astep P env H a K' := by
  unfold astep at *
  split at h
  · exact rop_mono (fun _ _ => hk _ _) h
  · split at h
    · exact Branch.mono h (rop_mono (fun _ _ => hk _ _)) (hk _ _)
    · exact h.elim
    · exact hk _ _ h

theorem aops_mono : ∀ (l : List AOp) {env : List Value} {H : AH} {K K' : List Value → AH → Prop}, (∀ e H', K e H' → K' e H') → aops P l env H K → aops P l env H K'
  | [], _, _, _, _, hk, h => hk _ _ h
  | _ :: l, _, _, _, _, hk, h => astep_mono (fun _ _ h => aops_mono l hk h) h

end

end Go.Proofs.YtmknkpcdfkpobaaA
