/- The one order that is walked, reckoned from a region's text. -/
import Derived.Test.YtmknkpcdfkpobaaB2
set_option linter.unusedVariables false
set_option linter.unusedSimpArgs false
namespace Go.Proofs.YtmknkpcdfkpobaaA
open Go.RowKit

/-- Whom an operation waits for: itself, and through others. -/
def ancGo : List Oper → List (List Nat) → List (List Nat)
  | [], acc => acc
  | o :: rest, acc => ancGo rest (acc ++ [((o.after.toList.filter (Region.binds .any)).flatMap fun e => e.on :: acc.getD e.on []).eraseDups])

def ancT (ops : Array Oper) : List (List Nat) := ancGo ops.toList []

def ancF (T : List (List Nat)) (i j : Nat) : Bool := (T.getD j []).contains i

theorem ancGo_old : ∀ (l : List Oper) (acc : List (List Nat)) (j : Nat), j < acc.length → (ancGo l acc).getD j [] = acc.getD j []
  | [], _, _, _ => rfl
  | o :: rest, acc, j, h => by
    rw [ancGo, ancGo_old rest _ j (by simp; omega)]
    simp [List.getD, List.getElem?_append, h]

theorem ancGo_new : ∀ (l : List Oper) (acc : List (List Nat)) (j : Nat) (o : Oper) (i : Nat), l[j]? = some o → i ∈ (ancGo l acc).getD (acc.length + j) [] →
    ∃ e ∈ o.after, Region.binds .any e = true ∧ (e.on = i ∨ (e.on < acc.length + j ∧ i ∈ (ancGo l acc).getD e.on []))
  | [], _, _, _, _, h, _ => by simp at h
  | x :: rest, acc, 0, o, i, h, hi => by
    simp at h; subst h
    rw [ancGo, Nat.add_zero, ancGo_old rest _ _ (by simp)] at hi
    simp only [List.getD, List.getElem?_append, Nat.lt_irrefl, if_false, Nat.sub_self, List.getElem?_cons_zero, Option.getD_some] at hi
    rw [List.mem_eraseDups, List.mem_flatMap] at hi
    obtain ⟨e, he, hie⟩ := hi
    rw [List.mem_filter] at he
    refine ⟨e, by simpa using he.1, he.2, ?_⟩
    rw [List.mem_cons] at hie
    rcases hie with h | h
    · exact .inl h.symm
    · have hlt : e.on < acc.length := by
        rcases Nat.lt_or_ge e.on acc.length with h' | h'
        · exact h'
        · simp [List.getD, List.getElem?_eq_none h'] at h
      refine .inr ⟨by omega, ?_⟩
      rw [ancGo, ancGo_old rest _ _ (by simp; omega)]
      simpa [List.getD, List.getElem?_append, hlt] using h
  | x :: rest, acc, j + 1, o, i, h, hi => by
    have := ancGo_new rest (acc ++ [((x.after.toList.filter (Region.binds .any)).flatMap fun e => e.on :: acc.getD e.on []).eraseDups]) j o i (by simpa using h)
      (by simp only [List.length_append, List.length_cons, List.length_nil]; rw [show acc.length + (0 + 1) + j = acc.length + (j + 1) by omega]; exact hi)
    obtain ⟨e, he, hb, hh⟩ := this
    refine ⟨e, he, hb, ?_⟩
    rcases hh with h | ⟨h1, h2⟩
    · exact .inl h
    · exact .inr ⟨by simp at h1; omega, h2⟩

theorem anc_listed {ops : Array Oper} {listed : Array Bool} (hc : Closed ops listed) {i : Nat} : ∀ (j : Nat) (o : Oper), ops[j]? = some o → (∀ e ∈ o.after, Region.binds .any e = true → listed.getD e.on false = true) →
    ancF (ancT ops) i j = true → listed.getD i false = true := by
  intro j
  induction j using Nat.strongRecOn with
  | _ j ih =>
    intro o ho hd ha
    have ha' : i ∈ (ancGo ops.toList []).getD (([] : List (List Nat)).length + j) [] := by
      simpa [ancF, ancT] using ha
    obtain ⟨e, he, hb, hh⟩ := ancGo_new ops.toList [] j o i (by simpa using ho) ha'
    have hl := hd e he hb
    rcases hh with rfl | ⟨hlt, hin⟩
    · exact hl
    · simp at hlt
      have hk : e.on < ops.size := by
        obtain ⟨hjl, _⟩ := Array.getElem?_eq_some_iff.1 ho
        omega
      exact ih e.on hlt ops[e.on] (by simp [hk]) (hc e.on _ (by simp [hk]) hl) (by simpa [ancF, ancT] using hin)

/-- The order, as a tree: what comes next; where it is open which effect comes first, both. -/
inductive RT where
  | nil
  | bad
  | pu (a : AOp) (r : RT)
  | ld (id : Nat) (a : AOp) (r : RT)
  | eff (a : AOp) (drop : List Nat) (r : RT)
  | both (r s : RT)

def areg (P : Program) : RT → List (Nat × (AH → Prop)) → List Value → AH → (List Value → AH → Prop) → Prop
  | .nil, _, env, H, K => K env H
  | .bad, _, _, _, _ => False
  | .pu a r, pend, env, H, K => astep P env H a (fun env' H' => areg P r pend env' H' K)
  | .ld id a r, pend, env, H, K => astep P env H a (fun env' H' => areg P r (pend ++ [(id, fun H2 => astep P env H2 a (fun e2 H3 => e2 = env' ∧ H3 = H2))]) env' H' K)
  | .eff a drop r, pend, env, H, K => astep P env H a (fun env' H' => (∀ p ∈ pend, drop.contains p.1 = false → p.2 H') ∧ areg P r (pend.filter fun p => !drop.contains p.1) env' H' K)
  | .both r s, pend, env, H, K => areg P r pend env H K ∧ areg P s pend env H K

def freeA (P : Program) (ops : Array Oper) (listed : Array Bool) (i : Nat) (oi : Oper) : Bool :=
  (List.range ops.size).all fun j => j == i || listed.getD j true ||
    (match ops[j]? with
     | some oj => oj.after.any (fun e => Region.binds .any e && e.on == i) || apartA (compOper P ops oi) (compOper P ops oj)
     | none => true)

def takeA (P : Program) (ops : Array Oper) (listed : Array Bool) (i : Nat) : Bool :=
  match ops[i]? with
  | some o => (pureK (compOp P o.op)).isSome && freeA P ops listed i o
  | none => false

def effs (f : Nat → RT) : List Nat → RT
  | [] => .nil
  | [j] => f j
  | j :: js => .both (f j) (effs f js)

def bld (P : Program) (ops : Array Oper) (T : List (List Nat)) : Nat → Array Bool → RT
  | 0, listed => if (rdy ops listed).isEmpty then .nil else .bad
  | fuel + 1, listed =>
    match (rdy ops listed).find? (takeA P ops listed) with
    | some i =>
      match ops[i]? with
      | some o =>
        match pureK (compOp P o.op) with
        | some false => .pu (compOper P ops o) (bld P ops T fuel (listed.setIfInBounds i true))
        | some true => .ld i (compOper P ops o) (bld P ops T fuel (listed.setIfInBounds i true))
        | none => .bad
      | none => .bad
    | none => effs (fun j => match ops[j]? with
        | some o => .eff (compOper P ops o) (T.getD j []) (bld P ops T fuel (listed.setIfInBounds j true))
        | none => .bad) (rdy ops listed)

section
variable {P : Program}

theorem freeA_spec {ops : Array Oper} {listed : Array Bool} {i : Nat} {oi : Oper} (h : freeA P ops listed i oi = true) (j : Nat) (oj : Oper) (hj : ops[j]? = some oj) (hji : j ≠ i) (hl : listed.getD j true = false)
    (hno : ∀ e ∈ oj.after, Region.binds .any e = true → e.on ≠ i) : apartA (compOper P ops oi) (compOper P ops oj) = true := by
  unfold freeA at h
  rw [List.all_eq_true] at h
  have hlt : j < ops.size := (Array.getElem?_eq_some_iff.1 hj).1
  have := h j (by simp [hlt])
  simp only [hj, Bool.or_eq_true, beq_iff_eq] at this
  rcases this with (h1 | h1) | (h1 | h1)
  · exact absurd h1 hji
  · rw [hl] at h1; cases h1
  · rw [Array.any_eq_true] at h1
    obtain ⟨k, hk, hh⟩ := h1
    rw [Bool.and_eq_true, beq_iff_eq] at hh
    exact absurd hh.2 (hno _ (by simp) hh.1)
  · exact h1

theorem effs_mem {f : Nat → RT} {pend : List (Nat × (AH → Prop))} {env : List Value} {H : AH} {K : List Value → AH → Prop} : ∀ {l : List Nat}, areg P (effs f l) pend env H K → ∀ j ∈ l, areg P (f j) pend env H K
  | [], _, j, hj => by cases hj
  | [x], h, j, hj => by rw [List.mem_singleton] at hj; subst hj; exact h
  | x :: y :: l, h, j, hj => by
    rw [List.mem_cons] at hj
    rcases hj with rfl | hj
    · exact h.1
    · exact effs_mem h.2 j hj

theorem bld_sound {ops : Array Oper} : ∀ (fuel : Nat) {listed : Array Bool} {pend : List (Nat × (AH → Prop))} {env : List Value} {H : AH} {K : List Value → AH → Prop}, Closed ops listed → (∀ p ∈ pend, p.2 H) →
    areg P (bld P ops (ancT ops) fuel listed) pend env H K → aAnyP P ops (ancF (ancT ops)) fuel listed pend env H K
  | 0, listed, pend, env, H, K, hcl, hp, h => by
    simp only [bld] at h
    split at h
    · rename_i he; exact ⟨List.isEmpty_iff.1 he, h⟩
    · exact h.elim
  | fuel + 1, listed, pend, env, H, K, hcl, hp, h => by
    have hanc : ∀ i (listed : Array Bool) j, Closed ops listed → j ∈ rdy ops listed → listed.getD i true = false → ancF (ancT ops) i j = false := by
      intro i listed j hcl hj hi
      cases ha : ancF (ancT ops) i j with
      | false => rfl
      | true =>
        obtain ⟨_, oj, hoj, hall⟩ := mem_ready.1 hj
        have := anc_listed hcl j oj hoj hall ha
        rcases Nat.lt_or_ge i listed.size with h' | h'
        · simp [h'] at hi this; rw [hi] at this; cases this
        · simp [Array.getElem?_eq_none h'] at this
    simp only [bld] at h
    split at h
    · rename_i i hfind
      have hrdy := List.mem_of_find?_eq_some hfind
      have htake := List.find?_some hfind
      split at h
      · rename_i o ho
        simp only [takeA, ho, Bool.and_eq_true] at htake
        have hfree := freeA_spec htake.2
        split at h
        · rename_i hpk
          obtain ⟨v, hK, hy, hall⟩ := astep_pure (a := compOper P ops o) hpk h
          exact take_first (P := P) ho (hanc i) (S := fun _ => True) (ext := []) (.inl ⟨rfl, fun _ => trivial⟩) fuel listed pend env H v hcl hrdy hfree (fun H2 _ => hall rfl H2) trivial hp
            (by rw [List.append_nil]; exact bld_sound fuel (hcl.set hrdy) hp hK)
        · rename_i hpk
          obtain ⟨v, hK, hy, _⟩ := astep_pure (a := compOper P ops o) hpk h
          refine take_first (P := P) ho (hanc i) (S := fun H2 => astep P env H2 (compOper P ops o) (fun e2 H3 => e2 = putL env o.dst v ∧ H3 = H2)) (ext := [(i, _)]) (.inr rfl) fuel listed pend env H v hcl hrdy hfree ?_ (by exact hy (fun e2 H3 => e2 = putL env o.dst v ∧ H3 = H) ⟨rfl, rfl⟩) hp
            (bld_sound fuel (hcl.set hrdy) ?_ hK)
          · intro H2 hS K2 hK2
            exact astep_mono (fun e2 H3 hh => by obtain ⟨rfl, rfl⟩ := hh; exact hK2) hS
          · intro p hpm
            rw [List.mem_append, List.mem_singleton] at hpm
            rcases hpm with hpm | rfl
            · exact hp p hpm
            · exact hy (fun e2 H3 => e2 = putL env o.dst v ∧ H3 = H) ⟨rfl, rfl⟩
        · exact h.elim
      · exact h.elim
    · refine ⟨fun hr => ?_, fun j hj => ?_⟩
      · rw [hr] at h; exact h
      · have hj' := effs_mem h j hj
        obtain ⟨_, oj, hoj, _⟩ := mem_ready.1 hj
        simp only [hoj] at hj'
        simp only [astepI, hoj]
        refine astep_mono (fun env' H' hh => ?_) hj'
        obtain ⟨h1, h2⟩ := hh
        have hd : ∀ p, ancF (ancT ops) p j = ((ancT ops).getD j []).contains p := fun p => rfl
        refine ⟨fun p hpm ha => h1 p hpm ha, bld_sound fuel (hcl.set hj) (fun p hpm => ?_) h2⟩
        rw [List.mem_filter] at hpm
        exact h1 p hpm.1 (by have h3 := hpm.2; rw [Bool.not_eq_true'] at h3; exact h3)

theorem areg_mono : ∀ (r : RT) {pend : List (Nat × (AH → Prop))} {env : List Value} {H : AH} {K K' : List Value → AH → Prop}, (∀ e H', K e H' → K' e H') → areg P r pend env H K → areg P r pend env H K'
  | .nil, _, _, _, _, _, hk, h => hk _ _ h
  | .bad, _, _, _, _, _, _, h => h
  | .pu a r, _, _, _, _, _, hk, h => astep_mono (fun _ _ h => areg_mono r hk h) h
  | .ld id a r, _, _, _, _, _, hk, h => astep_mono (fun _ _ h => areg_mono r hk h) h
  | .eff a drop r, _, _, _, _, _, hk, h => astep_mono (fun _ _ h => ⟨h.1, areg_mono r hk h.2⟩) h
  | .both r s, _, _, _, _, _, hk, h => ⟨areg_mono r hk h.1, areg_mono s hk h.2⟩

/-- **A region that draws its order.** -/
theorem areg_region {B : Nat} {ρ : Ren} {ops : Array Oper} {id : Nat} {env : List Value} {H : AH} {a : Act} {w : World} {K : List Value → AH → Prop} {Q : Exit → Act → World → Prop} (hm : P.follows .mixedOrders = true)
    (hSt : St B ρ env H a w) (h : areg P (bld P ops (ancT ops) ops.size (Array.replicate ops.size false)) [] env H K) (hQ : ∀ a' w', Reach B ρ w K a' w' → Q .normal a' w') : (Code.region id ops true).wp P Q a w := by
  refine wp_region_any hm ?_
  have hcl : Closed ops (Array.replicate ops.size false) := by
    intro k o hk hl
    exfalso
    rcases Nat.lt_or_ge k ops.size with h' | h'
    · simp [h'] at hl
    · simp [h'] at hl
  have h1 := bld_sound ops.size hcl (fun p hp => by cases hp) h
  have hSt' : St B ρ env H a w.drew := ⟨hSt.sim.drew, hSt.env, hSt.defers⟩
  exact aAnyP_wp ops.size hSt' h1 fun a' w' hr => hQ _ _ (hr.trans (RenLe.refl ρ) (Below.refl B w).drew)

end
end Go.Proofs.YtmknkpcdfkpobaaA
