/- Functions. -/
import Derived.Test.YtmknkpcdfkpobaaB3
set_option linter.unusedVariables false
set_option linter.unusedSimpArgs false
namespace Go.Proofs.YtmknkpcdfkpobaaA
open Go.RowKit

theorem okv_some_eq (v : Value) (H : AH) (K : Value → AH → Prop) : okv (some v) H K = K v H := rfl

/-! ### Functions -/

def resTmp (env : List Value) : ResultVar → Option Value
  | .tmp t => some (env.getD t undef)
  | .cell _ _ => none

def resAll (env : List Value) : List ResultVar → Option (List Value)
  | [] => some []
  | r :: rs =>
    match resTmp env r, resAll env rs with
    | some v, some l => some (v :: l)
    | _, _ => none

def ares (rs : List ResultVar) (env : List Value) : Option Value :=
  match resAll env rs with
  | some [v] => some v
  | some l => some (.tuple l.toArray)
  | none => none

def retK (rs : List ResultVar) (R : Value → AH → Prop) : AEx → List Value → AH → Prop
  | .exit _, _, _ => False
  | _, env, H => okv (ares rs env) H R

def resC (tmps : Array Value) : ResultVar → Value
  | .tmp t => tmps.getD t undef
  | .cell _ _ => undef

theorem resAll_LR {ρ : Ren} {env : List Value} {tmps : Array Value} (hE : LR ρ env tmps.toList) : ∀ (rs : List ResultVar) (l : List Value), resAll env rs = some l → LR ρ l (rs.map (resC tmps))
  | [], l, h => by simp [resAll] at h; subst h; trivial
  | r :: rs, l, h => by
    simp only [resAll] at h
    split at h
    · rename_i v l0 hv h0
      simp only [Option.some.injEq] at h; subst h
      cases r with
      | cell a t => simp [resTmp] at hv
      | tmp t =>
        simp only [resTmp, Option.some.injEq] at hv; subst hv
        refine ⟨?_, resAll_LR hE rs l0 h0⟩
        have := hE.getD t
        have e : tmps.toList.getD t undef = tmps.getD t undef := by simp [List.getD, Array.getD]; split <;> simp_all
        rwa [e] at this
    · simp at h

theorem mapM_run {P : Program} {env : List Value} {tmps : Array Value} (f : ResultVar → Sem Value) (w : World) :
    ∀ (rs : List ResultVar) (l : List Value), resAll env rs = some l → (∀ t w, (f (.tmp t)).run P w = .ok (tmps.getD t undef) w) → (rs.mapM f).run P w = .ok (rs.map (resC tmps)) w
  | [], l, h, _ => by simp
  | r :: rs, l, h, hf => by
    simp only [resAll] at h
    split at h
    · rename_i v l0 hv h0
      cases r with
      | cell a t => simp [resTmp] at hv
      | tmp t =>
        rw [List.mapM_cons]
        simp only [Sem.run_bind, Sem.run_pure, Result.andThen_ok, hf, mapM_run f w rs l0 h0 hf, List.map_cons, resC]
    · simp at h

theorem results_run {ρ : Ren} {P : Program} {fn : Func} {env : List Value} {tmps : Array Value} {v : Value} (hE : LR ρ env tmps.toList) (h : ares fn.results.toList env = some v) (w : World) :
    ∃ v', (results fn tmps).run P w = .ok v' w ∧ VR ρ v v' := by
  have key : ∀ l, resAll env fn.results.toList = some l →
      ∃ l' : List Value, LR ρ l l' ∧ (results fn tmps).run P w = .ok (if h : l'.toArray.size = 1 then l'.toArray[0] else .tuple l'.toArray) w := by
    intro l hl
    refine ⟨_, resAll_LR hE _ l hl, ?_⟩
    unfold results
    rw [Array.mapM_eq_mapM_toList]
    simp only [Sem.run_bind, Sem.run_map]
    rw [mapM_run (tmps := tmps) _ w _ l hl (by intro t w; rfl)]
    simp only [Result.andThen_ok, Sem.run_pure]
  unfold ares at h
  split at h
  · rename_i u hu
    simp only [Option.some.injEq] at h; subst h
    obtain ⟨l', h1, h2⟩ := key _ hu
    obtain ⟨a', rfl, hr⟩ := list1 h1
    exact ⟨a', by rw [h2]; rfl, hr⟩
  · rename_i l hne hl
    simp only [Option.some.injEq] at h; subst h
    obtain ⟨l', h1, h2⟩ := key l hl
    have hsz : l'.toArray.size ≠ 1 := by
      intro h1'
      have hll := h1.length
      simp at h1'
      match l, hll with
      | [u], _ => exact hne u rfl
      | [], h => simp at h; omega
      | _ :: _ :: _, h => simp at h; omega
    refine ⟨.tuple l'.toArray, by rw [h2, dif_neg hsz], VR.tupleL (by simpa using h1)⟩
  · simp at h

theorem ACalls.of_body {P : Program} {f : FuncId} {fn : Func} {c : Code} {args : List Value} {H : AH} {R : Value → AH → Prop} (hf : P.funcs[f]? = some fn) (hb : fn.body = some c)
    (h : wpa P (comp P c) (retK fn.results.toList R) (args ++ List.replicate (fn.ntmps - args.length) undef) H) : ACalls P f args H R := by
  intro B ρ w args' hS hL
  have hlen := hL.length
  simp at hlen
  have hE : LR ρ (args ++ List.replicate (fn.ntmps - args.length) undef) (args' ++ Array.replicate (fn.ntmps - args'.size) undef).toList := by
    rw [Array.toList_append, Array.toList_replicate, ← hlen]
    exact hL.append (LR.replicate_undef _)
  have hw := AWp.of_comp c h B ρ w { tmps := args' ++ Array.replicate (fn.ntmps - args'.size) undef, defers := [] } ⟨hS, hE, rfl⟩
  refine calls_of_wp hf hb (wp_mono hw ?_)
  rintro e a' w' ⟨x, rfl, env', H', ρ', hQ, hSt, hρ, hB⟩
  have fin : okv (ares fn.results.toList env') H' R → a'.defers = [] ∧ ∃ v, (results fn a'.tmps).run P w' = .ok v w' ∧
      ∃ v1 v' H' ρ', Ending.returned v = .returned v' ∧ R v1 H' ∧ VR ρ' v1 v' ∧ Sim B ρ' H' w' ∧ RenLe ρ ρ' ∧ Below B w w' := by
    intro hr
    obtain ⟨v, hv, hR⟩ := okv_some hr
    obtain ⟨v', h1, h2⟩ := results_run (P := P) hSt.env hv w'
    exact ⟨hSt.defers, v', h1, v, v', H', ρ', rfl, hR, h2, hSt.sim, hρ, hB⟩
  cases x with
  | normal => exact fin hQ
  | exit id => exact hQ.elim
  | ret => exact fin hQ

theorem ACalls.of_ac {P : Program} {f : FuncId} {fn : Func} {ac : AC} {args : List Value} {H : AH} {R : Value → AH → Prop} (hf : P.funcs[f]? = some fn) (hb : fn.body.isSome = true)
    (hc : comp P (fn.body.getD .skip) = ac) (h : wpa P ac (retK fn.results.toList R) (args ++ List.replicate (fn.ntmps - args.length) undef) H) : ACalls P f args H R := by
  obtain ⟨c, hc'⟩ := Option.isSome_iff_exists.1 hb
  rw [hc'] at hc
  exact ACalls.of_body hf hc' (by rw [show comp P c = ac from hc]; exact h)

end Go.Proofs.YtmknkpcdfkpobaaA
