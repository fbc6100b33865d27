/- Code: its abstract weakest preconditions, and that they tell of the model's. -/
import Derived.Test.YtmknkpcdfkpobaaA11
set_option linter.unusedVariables false
set_option linter.unusedSimpArgs false
namespace Go.Proofs.YtmknkpcdfkpobaaA
open Go.RowKit

structure AOp where
  dst : Option Nat
  g : Option (Option Nat × Bool)
  op : ROp

def astep (P : Program) (env : List Value) (H : AH) (a : AOp) (K : List Value → AH → Prop) : Prop :=
  match a.g with
  | none => rop P env a.op H (fun v H' => K (putL env a.dst v) H')
  | some (gt, want) =>
    match gt.bind (env[·]?) with
    | some (.bool b) => Branch (b == want) (rop P env a.op H (fun v H' => K (putL env a.dst v) H')) (K (putL env a.dst undef) H)
    | some (.chan _) => False
    | _ => K (putL env a.dst undef) H

def aops (P : Program) : List AOp → List Value → AH → (List Value → AH → Prop) → Prop
  | [], env, H, K => K env H
  | a :: l, env, H, K => astep P env H a (fun env' H' => aops P l env' H' K)

def compOper (P : Program) (ops : Array Oper) (o : Oper) : AOp :=
  { dst := o.dst, g := o.guard.map fun (j, want) => ((ops[j]?).bind (·.dst), want), op := compOp P o.op }

structure St (B : Nat) (ρ : Ren) (env : List Value) (H : AH) (a : Act) (w : World) : Prop where
  sim : Sim B ρ H w
  env : LR ρ env a.tmps.toList
  defers : a.defers = []

def Reach (B : Nat) (ρ : Ren) (w : World) (K : List Value → AH → Prop) (a' : Act) (w' : World) : Prop :=
  ∃ env' H' ρ', K env' H' ∧ St B ρ' env' H' a' w' ∧ RenLe ρ ρ' ∧ Below B w w'

theorem Reach.trans {B : Nat} {ρ ρ' : Ren} {w w' : World} {K : List Value → AH → Prop} {a : Act} {w'' : World} (h : Reach B ρ' w' K a w'') (hρ : RenLe ρ ρ') (hB : Below B w w') : Reach B ρ w K a w'' := by
  obtain ⟨env', H', ρ'', h1, h2, h3, h4⟩ := h
  exact ⟨env', H', ρ'', h1, h2, hρ.trans h3, hB.trans h4⟩

section
variable {P : Program} {B : Nat} {ρ : Ren} {H : AH} {w : World} {env : List Value} {a : Act} {ops : Array Oper} {Q : Exit → Act → World → Prop}

theorem good_upon {o : Oper} {K : List Value → AH → Prop} {r : Result Next} (hSt : St B ρ env H a w) (h : Good B ρ w (fun v H' => K (putL env o.dst v) H') r) :
    o.upon P a (Reach B ρ w K) Q r := by
  obtain ⟨v, v', H', ρ', w', hr, hv, hK, hS, hρ, hB⟩ := h
  rcases hr with rfl | ⟨rfl, rfl⟩
  · exact ⟨_, _, ρ', hK, ⟨hS, LR.put (hSt.env.mono hρ) o.dst hv, by
      have := hSt.defers
      unfold Act.put; split <;> simpa using this⟩, hρ, hB⟩
  · exact ⟨_, _, ρ', hK, ⟨hS, LR.put (hSt.env.mono hρ) o.dst hv, by
      have := hSt.defers
      unfold Act.put; split <;> simpa using this⟩, hρ, hB⟩

theorem put_defers0 (hd : a.defers = []) (d : Option Tmp) (v : Value) : (a.put d v).defers = [] := by
  unfold Act.put; split <;> simpa using hd

theorem aopc_upon {o : Oper} {K : List Value → AH → Prop} (hSt : St B ρ env H a w) (h : aopc P (evalL env) o.op H (fun v H' => K (putL env o.dst v) H')) :
    o.wp P a w (Reach B ρ w K) Q := by
  unfold Oper.wp
  have base : aop P (evalL env) o.op H (fun v H' => K (putL env o.dst v) H') → o.upon P a (Reach B ρ w K) Q ((execOp a.eval o).run P w) :=
    fun h => good_upon hSt (aop_good hSt.sim hSt.env h)
  unfold aopc at h
  have callG : ∀ {c : Call} {g : FuncId} {args : List Value}, o.op = .call c → acallee P (evalL env) c = some (g, args) → callable P g = true → ACalls P g args H (fun v H' => K (putL env o.dst v) H') → o.upon P a (Reach B ρ w K) Q ((execOp a.eval o).run P w) := by
    intro c g args ho hc hcall hA
    obtain ⟨l', hl, hrun⟩ := acallee_run (P := P) (ty := o.type) hc hcall hSt.env w
    have : (execOp a.eval o).run P w = .ok (.enter g l') w := by
      unfold execOp
      rw [ho]
      exact hrun
    rw [this]
    show Calls P g l' w _
    refine (hA B ρ w l' hSt.sim hl).mono ?_
    rintro e w' ⟨v, v', H', ρ', rfl, hK, hv, hS, hρ, hB⟩
    exact ⟨_, H', ρ', hK, ⟨hS, LR.put (hSt.env.mono hρ) o.dst hv, put_defers0 hSt.defers _ _⟩, hρ, hB⟩
  split at h
  · rename_i c ho
    split at h
    · rename_i b hb
      exact base h
    · rename_i f hf
      split at h
      · rename_i g args hc
        split at h
        · rename_i hcall
          exact callG ho hc hcall h
        · obtain ⟨l', hl, hrun⟩ := acallee_ext (P := P) (ty := o.type) hc hf hSt.env w
          have : (execOp a.eval o).run P w = (callFunc g l').run P w := by
            unfold execOp
            rw [ho]
            exact hrun
          rw [this]
          exact good_upon hSt (h B ρ w l' hSt.sim hl)
      · exact h.elim
    · split at h
      · rename_i g args hc
        exact callG ho hc h.1 h.2
      · exact h.elim
  · exact base h

theorem rop_wp {o : Oper} {K : List Value → AH → Prop} (hSt : St B ρ env H a w) (h : rop P env (compOp P o.op) H (fun v H' => K (putL env o.dst v) H')) :
    o.wp P a w (Reach B ρ w K) Q := aopc_upon hSt (comp_sound h)

theorem astep_wp {i : Nat} {o : Oper} {K : List Value → AH → Prop} (ho : ops[i]? = some o) (hSt : St B ρ env H a w) (h : astep P env H (compOper P ops o) K) :
    wpOp P ops Q i (Reach B ρ w K) a w := by
  unfold wpOp
  simp only [ho]
  have skip : K (putL env o.dst undef) H → Reach B ρ w K (a.put o.dst undef) w := fun hK =>
    ⟨_, H, ρ, hK, ⟨hSt.sim, LR.put hSt.env o.dst VR.und, put_defers0 hSt.defers _ _⟩, RenLe.refl ρ, Below.refl B w⟩
  unfold astep at h
  cases hg : o.guard with
  | none =>
    have hw : Region.wanted o (yielded ops a.tmps) = true := by simp [Region.wanted, hg]
    simp only [compOper, hg, Option.map_none] at h
    rw [if_pos hw]
    exact .inl (rop_wp hSt h)
  | some jw =>
    obtain ⟨j, want⟩ := jw
    simp only [compOper, hg, Option.map_some] at h
    -- the guard's slot, in the frame
    have hy : ∀ {u : Value}, (((ops[j]?).bind (·.dst)).bind (env[·]?)) = some u → ∃ u', (((ops[j]?).bind (·.dst)).bind (a.tmps[·]?)) = some u' ∧ VR ρ u u' := by
      intro u hu
      obtain ⟨t, ht, hu⟩ := Option.bind_eq_some_iff.1 hu
      obtain ⟨u', h1, h2⟩ := hSt.env.get t u hu
      exact ⟨u', by rw [ht]; simpa using h1, h2⟩
    have hyn : (((ops[j]?).bind (·.dst)).bind (env[·]?)) = none → (((ops[j]?).bind (·.dst)).bind (a.tmps[·]?)) = none := by
      intro hu
      rw [Option.bind_eq_none_iff] at hu ⊢
      intro t ht
      have := hu t ht
      rw [List.getElem?_eq_none_iff] at this
      rw [Array.getElem?_eq_none_iff]
      have hl := hSt.env.length
      simp at hl; omega
    split at h
    · rename_i b hb
      obtain ⟨u', hu', hr⟩ := hy hb
      cases hr
      have hyy : yielded ops a.tmps j = some b := by simp only [yielded, hu']
      by_cases hbw : b = want
      · have hw : Region.wanted o (yielded ops a.tmps) = true := by simp [Region.wanted, hg, hyy, hbw]
        have h := h.1 (by simp [hbw])
        rw [if_pos hw]
        exact .inl (rop_wp hSt h)
      · have hw : ¬ Region.wanted o (yielded ops a.tmps) = true := by simp [Region.wanted, hg, hyy, hbw]
        have h := h.2 (by simp [hbw])
        rw [if_neg hw]
        exact skip h
    · exact h.elim
    · rename_i hnb hnc
      have hyy : yielded ops a.tmps j = none := by
        unfold yielded
        cases hb : (((ops[j]?).bind (·.dst)).bind (env[·]?)) with
        | none => rw [hyn hb]
        | some u =>
          obtain ⟨u', hu', hr⟩ := hy hb
          rw [hu']
          cases hr <;> first | rfl | exact absurd hb (hnb _) | exact absurd hb (hnc _)
      have hw : ¬ Region.wanted o (yielded ops a.tmps) = true := by simp [Region.wanted, hg, hyy]
      rw [if_neg hw]
      exact skip h

theorem aops_wp : ∀ (is : List Nat) {env : List Value} {H : AH} {ρ : Ren} {a : Act} {w : World} {K : List Value → AH → Prop}, St B ρ env H a w → aops P (is.filterMap fun i => (ops[i]?).map (compOper P ops)) env H K →
    (∀ a' w', Reach B ρ w K a' w' → Q .normal a' w') → wpOps P ops Q is a w
  | [], env, H, ρ, a, w, K, hSt, h, hQ => hQ _ _ ⟨env, H, ρ, h, hSt, RenLe.refl ρ, Below.refl B w⟩
  | i :: is, env, H, ρ, a, w, K, hSt, h, hQ => by
    rw [wpOps_cons]
    cases ho : ops[i]? with
    | none =>
      simp only [List.filterMap_cons, ho, Option.map_none] at h
      unfold wpOp
      simp only [ho]
      exact aops_wp is hSt h hQ
    | some o =>
      simp only [List.filterMap_cons, ho, Option.map_some, aops] at h
      refine wpOp_mono ?_ (astep_wp ho hSt h)
      rintro a' w' ⟨env', H', ρ', hK, hSt', hρ, hB⟩
      exact aops_wp is hSt' hK fun a'' w'' hr => hQ _ _ (hr.trans hρ hB)

end

theorem filterMap_range {α : Type} (ops : Array Oper) (f : Oper → α) : (List.range ops.size).filterMap (fun i => (ops[i]?).map f) = ops.toList.map f := by
  have : ∀ l : List Oper, (List.range l.length).filterMap (fun i => (l[i]?).map f) = l.map f := by
    intro l
    induction l with
    | nil => rfl
    | cons x l ih =>
      rw [List.length_cons, List.range_succ_eq_map, List.filterMap_cons]
      simp only [List.getElem?_cons_zero, Option.map_some, List.map_cons, List.filterMap_map]
      congr 1
  have h := this ops.toList
  simpa using h

end Go.Proofs.YtmknkpcdfkpobaaA
