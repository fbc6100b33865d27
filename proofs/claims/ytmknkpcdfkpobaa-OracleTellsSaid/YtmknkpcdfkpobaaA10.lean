/- All operations but calls of functions. -/
import Derived.Test.YtmknkpcdfkpobaaA10b
set_option linter.unusedVariables false
set_option linter.unusedSimpArgs false
namespace Go.Proofs.YtmknkpcdfkpobaaA
open Go.RowKit

def okv (o : Option Value) (H : AH) (K : Value → AH → Prop) : Prop :=
  match o with
  | some v => K v H
  | none => False

def abuiltin (P : Program) (b : Builtin) (argTypes : Array TypeId) (args : List Value) (H : AH) (K : Value → AH → Prop) : Prop :=
  match b, args with
  | .append, [s, x] => aappend P argTypes s x H K
  | .copy, [d, x] => acopy P argTypes d x H K
  | .clear, [x] => aclear P argTypes x H K
  | .len, [x] => okv (alenB P argTypes x) H K
  | .cap, [x] => okv (acapB P argTypes x) H K
  | .max, l => okv (amm true l) H K
  | .min, l => okv (amm false l) H K
  | _, _ => False

def nonNil : Value → Bool
  | .pointer (some _) | .func (.method _) _ _ | .func (.func _) _ _ | .func (.via _ _ _ _) _ _ | .iface _ _ => true
  | _ => false

def aop (P : Program) (ev : Operand → Value) (o : Op) (H : AH) (K : Value → AH → Prop) : Prop :=
  match o with
  | .move x => K (ev x) H
  | .assign x => K (ev x) H
  | .pick c a b =>
    match ev c with
    | .bool t => if t = true then K (ev a) H else K (ev b) H
    | _ => False
  | .alloc t =>
    match azero P t with
    | some z => anew H z K
    | none => False
  | .box _ x => abox H (cellsL (ev x)) K
  | .build t parts => okv (abuild P t (parts.toList.map fun p => (p.1, ev p.2))) H K
  | .buildSlice t len parts => abuildSlice P t len (parts.toList.map fun p => (p.1, ev p.2)) H K
  | .load t a =>
    match ev a with
    | .pointer (some ⟨b, o, none⟩) => okv (aload P t H b o) H K
    | .func (.method _) cs _ => okv (aloadF P t cs.toList) H K
    | _ => False
  | .store t a x =>
    match ev a with
    | .pointer (some ⟨b, o, none⟩) => astore P t H b o (ev x) (K undef)
    | _ => False
  | .nilCheck x => nonNil (ev x) = true ∧ K (ev x) H
  | .binOp op t x y _ => okv (abinE P op t x y (ev x) (ev y)) H K
  | .unOp op _ x => okv (aun op (ev x)) H K
  | .convert s d x => okv (aconv P s d (ev x)) H K
  | .makeInterface t x => okv (aiface P t (ev x)) H K
  | .makeFunc fn first captured => fnOk fn = true ∧ K (.func fn (first.toList.map ev).toArray (captured.toList.map ev).toArray) H
  | .makeSlice t l c => amakeSlice P t (ev l) (ev c) H K
  | .slice t x lo hi mx => okv (asl P t (ev x) (lo.map ev) (hi.map ev) (mx.map ev)) H K
  | .fieldAddr t x f => okv (afieldAddr P t (ev x) f) H K
  | .field t x f => okv (afield P t (ev x) f) H K
  | .indexAddr t x i => okv (aindexAddr P t (ev x) (ev i)) H K
  | .index t x i => okv (aindex P t (ev x) (ev i)) H K
  | .typeAssert x xT t ok => okv (aassert P (ev x) xT t ok) H K
  | .extract t i => okv (aextract (ev t) i) H K
  | .call { callee := .builtin b, args, argTypes } => abuiltin P b argTypes (args.toList.map ev) H K
  | _ => False

section
variable {P : Program} {B : Nat} {ρ : Ren} {H : AH} {w : World} {K : Value → AH → Prop}

theorem okv_some {o : Option Value} (h : okv o H K) : ∃ v, o = some v ∧ K v H := by
  unfold okv at h
  split at h
  · exact ⟨_, rfl, h⟩
  · exact h.elim

theorem Yield.good {s : Sem Value} (h : Yield P B ρ w K s) : Good B ρ w K ((do Pure.pure (Next.value (← s)) : Sem Next).run P w) := by
  obtain ⟨v, v', H', ρ', w', h1, h2, h3, h4, h5, h6⟩ := h
  exact ⟨v, v', H', ρ', w', .inl (by simp [h1]), h2, h3, h4, h5, h6⟩

theorem Yield.okv {s : Sem Value} {o : Option Value} (hS : Sim B ρ H w) (h : okv o H K) (hrun : ∀ v, o = some v → ∃ v', s.run P w = .ok v' w ∧ VR ρ v v') : Yield P B ρ w K s := by
  obtain ⟨v, hv, hK⟩ := okv_some h
  obtain ⟨v', h1, h2⟩ := hrun v hv
  exact Yield.pure h1 hS h2 hK

theorem Yield.okv' {s : Sem Value} {o : Option Value} (hS : Sim B ρ H w) (h : YtmknkpcdfkpobaaA.okv o H K) (hrun : ∀ v, o = some v → s.run P w = .ok v w ∧ VR ρ v v) : Yield P B ρ w K s := by
  obtain ⟨v, hv, hK⟩ := okv_some h
  obtain ⟨h1, h2⟩ := hrun v hv
  exact Yield.pure h1 hS h2 hK

theorem LR.evals {env : List Value} {a : Act} (hE : LR ρ env a.tmps.toList) (xs : Array Operand) : LR ρ (xs.toList.map (evalL env)) ((xs.map a.eval).toList) := by
  rw [Array.toList_map]
  exact LR.map fun x _ => VR.eval hE x

theorem OR.eval {env : List Value} {a : Act} (hE : LR ρ env a.tmps.toList) (x : Option Operand) : OR ρ (x.map (evalL env)) (x.map a.eval) := by
  cases x with
  | none => trivial
  | some x => exact VR.eval hE x

theorem list1 {l' : List Value} {a : Value} (h : LR ρ [a] l') : ∃ a', l' = [a'] ∧ VR ρ a a' := by
  match l', h with
  | [a'], h => exact ⟨a', rfl, h.1⟩

theorem list2 {l' : List Value} {a b : Value} (h : LR ρ [a, b] l') : ∃ a' b', l' = [a', b'] ∧ VR ρ a a' ∧ VR ρ b b' := by
  match l', h with
  | [a', b'], h => exact ⟨a', b', rfl, h.1, h.2.1⟩

theorem abuiltin_good {b : Builtin} {argTypes : Array TypeId} {ty : TypeId} {consts : Array Bool} {l l' : List Value} (hS : Sim B ρ H w) (hl : LR ρ l l') (h : abuiltin P b argTypes l H K) :
    Good B ρ w K ((builtin b argTypes ty consts l'.toArray).run P w) := by
  unfold abuiltin at h
  split at h
  · obtain ⟨a', b', rfl, h1, h2⟩ := list2 hl
    exact (aappend_good hS h1 h2 h).good
  · obtain ⟨a', b', rfl, h1, h2⟩ := list2 hl
    exact (acopy_good hS h1 h2 h).good
  · obtain ⟨a', rfl, h1⟩ := list1 hl
    exact (aclear_good hS h1 h).good
  · obtain ⟨a', rfl, h1⟩ := list1 hl
    exact (Yield.okv' hS h fun v hv => alenB_good hv h1 w).good
  · obtain ⟨a', rfl, h1⟩ := list1 hl
    exact (Yield.okv' hS h fun v hv => acapB_good hv h1 w).good
  · exact (Yield.okv' hS h fun v hv => amm_max hv hl _ _ w).good
  · exact (Yield.okv' hS h fun v hv => amm_min hv hl _ _ w).good
  · exact h.elim

theorem parts_fst (parts : Array (Nat × Operand)) (f g : Operand → Value) : (parts.toList.map fun p => (p.1, f p.2)).map (·.1) = (parts.map fun (i, x) => (i, g x)).toList.map (·.1) := by
  simp [Array.toList_map]

theorem parts_snd {env : List Value} {a : Act} (hE : LR ρ env a.tmps.toList) (parts : Array (Nat × Operand)) :
    LR ρ ((parts.toList.map fun p => (p.1, evalL env p.2)).map (·.2)) ((parts.map fun (i, x) => (i, a.eval x)).toList.map (·.2)) := by
  rw [Array.toList_map, List.map_map, List.map_map]
  exact LR.map fun p _ => VR.eval hE p.2

theorem aop_good {env : List Value} {a : Act} {o : Oper} (hS : Sim B ρ H w) (hE : LR ρ env a.tmps.toList) (h : aop P (evalL env) o.op H K) :
    Good B ρ w K ((execOp a.eval o).run P w) := by
  have V := fun x => VR.eval hE x
  unfold aop at h
  unfold execOp
  split at h
  · rename_i x ho; rw [ho]; exact Good.pure hS (V x) h
  · rename_i x ho; rw [ho]; exact Good.pure hS (V x) h
  · rename_i c x y ho; rw [ho]; dsimp only
    split at h
    · rename_i t hc
      have hv := V c
      rw [hc] at hv
      generalize a.eval c = cv at hv ⊢
      cases hv
      simp only [asBool, Sem.run_bind, Sem.run_pure, Result.andThen_ok]
      cases t
      · exact Good.pure hS (V y) h
      · exact Good.pure hS (V x) h
    · exact h.elim
  · rename_i t ho; rw [ho]
    split at h
    · rename_i z hz
      obtain ⟨zv, hz1, hz2, hz3⟩ := azero_some (ρ := ρ) hz
      obtain ⟨w', v, v', H', ρ', h1, rfl, h3, h4, h5, h6, h7⟩ := new_good (P := P) (elem := t) hS hz3 h
      refine Yield.good ⟨_, .pointer (some v'), H', ρ', w', ?_, h3, h4, h5, h6, h7⟩
      simp only [Array.toArray_toList] at h1
      simp only [Instr.alloc, Sem.run_bind, tzero_run hz1, Result.andThen_ok, newVar, h1, Sem.run_pure]
    · exact h.elim
  · rename_i t x ho; rw [ho]
    obtain ⟨hok, hK⟩ := h
    have hL := LR.cells (V x) hok
    obtain ⟨w', v, v', H', ρ', h1, h3, h4, h5, h6, h7⟩ := box_good (P := P) (elem := t) (K := K) hS hL ⟨hok, hK⟩
    refine Yield.good ⟨_, .pointer (some v'), H', ρ', w', ?_, h3, h4, h5, h6, h7⟩
    simp only [Array.toArray_toList] at h1
    simp only [Instr.box, Sem.run_bind, newVar, h1, Result.andThen_ok, Sem.run_pure]
  · rename_i t parts ho; rw [ho]
    refine (Yield.okv hS h fun v hv => ?_).good
    obtain ⟨r', h1, h2⟩ := abuild_good (P := P) (ρ := ρ) hv (parts_fst parts _ a.eval) (parts_snd hE parts) w
    exact ⟨r', by rw [Array.toArray_toList] at h1; exact h1, h2⟩
  · rename_i t len parts ho; rw [ho]
    have := abuildSlice_good (P := P) hS h (parts_fst parts _ a.eval) (parts_snd hE parts)
    simp only [Array.toArray_toList] at this
    exact Yield.good this
  · rename_i t x ho; rw [ho]; dsimp only
    split at h
    · rename_i b o' hx
      have hv := V x
      rw [hx] at hv
      generalize a.eval x = xv at hv ⊢
      cases hv with
      | ptr hr =>
        refine (Yield.okv hS h fun v hv => ?_).good
        obtain ⟨v', h1, h2⟩ := loadVar_good hS hr hv
        exact ⟨v', by simp only [Instr.loadAt, Instr.sureAddr, Sem.run_bind, Sem.run_pure, Result.andThen_ok, h1], h2⟩
    · rename_i nm cs c0 hx
      have hv := V x
      rw [hx] at hv
      generalize a.eval x = xv at hv ⊢
      cases hv with
      | func _ hm => cases hm
      | frzP hr =>
        refine (Yield.okv hS h fun v hv => ?_).good
        obtain ⟨v', h1, h2⟩ := loadVarF_good (P := P) hS hr hv
        exact ⟨v', by simp only [Instr.loadAt, Instr.sureAddr, Sem.run_bind, Sem.run_pure, Result.andThen_ok, h1], h2⟩
    · exact h.elim
  · rename_i t x y ho; rw [ho]; dsimp only
    split at h
    · rename_i b o' hx
      have hv := V x
      rw [hx] at hv
      generalize a.eval x = xv at hv ⊢
      cases hv with
      | ptr hr =>
        obtain ⟨w', H', h1, h2, h3, h4⟩ := storeVar_good (P := P) hS hr (V y) h
        exact ⟨undef, undef, H', ρ, w', .inr ⟨by simp only [Instr.storeAt, Instr.sureAddr, Sem.run_bind, Sem.run_pure, Result.andThen_ok, h1], rfl⟩, VR.und, h3, h2, RenLe.refl ρ, h4⟩
    · exact h.elim
  · rename_i x ho; rw [ho]; dsimp only
    obtain ⟨hn, hK⟩ := h
    have hv := V x
    generalize evalL env x = y at hn hK hv
    generalize a.eval x = y' at hv ⊢
    unfold nonNil at hn
    split at hn
    · cases hv with
      | ptr hr => exact Good.pure hS (.ptr hr) hK
    · cases hv with
      | func _ hm => cases hm
      | frzP hr => exact Good.pure hS (.frzP hr) hK
    · cases hv with
      | func fn h0 h1 h2 h3 h4 => exact Good.pure hS (.func _ h0 h1 h2 h3 h4) hK
    · cases hv with
      | func fn h0 h1 h2 h3 h4 => exact Good.pure hS (.func _ h0 h1 h2 h3 h4) hK
    · cases hv with
      | iface _ h1 => exact Good.pure hS (.iface _ h1) hK
    · cases hn
  · rename_i op t x y yt ho; rw [ho]
    exact (Yield.okv' hS h fun v hv => abinE_good hv (V x) (V y) w).good
  · rename_i op t x ho; rw [ho]
    exact (Yield.okv' hS h fun v hv => aun_good hv (V x) w).good
  · rename_i s d x ho; rw [ho]
    exact (Yield.okv' hS h fun v hv => aconv_good hv (V x) w).good
  · rename_i t x ho; rw [ho]
    exact (Yield.okv hS h fun v hv => aiface_good hv (V x) w).good
  · rename_i fn first captured ho; rw [ho]
    refine Yield.good (Yield.pure (v' := .func fn (first.map a.eval) (captured.map a.eval)) (by simp [Instr.makeFunc]) hS ?_ h.2)
    have h1 := (LR.evals hE first)
    have h2 := (LR.evals hE captured)
    exact .func fn h.1 (LR.arr (c := (first.toList.map (evalL env)).toArray) h1).1 (LR.arr (c := (first.toList.map (evalL env)).toArray) h1).2 (LR.arr (c := (captured.toList.map (evalL env)).toArray) h2).1 (LR.arr (c := (captured.toList.map (evalL env)).toArray) h2).2
  · rename_i t l c ho; rw [ho]
    exact Yield.good (amakeSlice_good hS (V l) (V c) h)
  · rename_i t x lo hi mx ho; rw [ho]
    exact (Yield.okv hS h fun v hv => asl_good hv (V x) (OR.eval hE lo) (OR.eval hE hi) (OR.eval hE mx) w).good
  · rename_i t x f ho; rw [ho]
    exact (Yield.okv hS h fun v hv => afieldAddr_good hv (V x) w).good
  · rename_i t x f ho; rw [ho]
    exact (Yield.okv hS h fun v hv => afield_good hv (V x) w).good
  · rename_i t x i ho; rw [ho]
    exact (Yield.okv hS h fun v hv => aindexAddr_good hv (V x) (V i) w).good
  · rename_i t x i ho; rw [ho]
    exact (Yield.okv hS h fun v hv => aindex_good hv (V x) (V i) w).good
  · rename_i x xT t ok ho; rw [ho]
    exact (Yield.okv hS h fun v hv => aassert_good hv (V x) w).good
  · rename_i x i ho; rw [ho]
    exact (Yield.okv hS h fun v hv => aextract_good hv (V x) w).good
  · rename_i b args argTypes ho; rw [ho]
    have := abuiltin_good (P := P) (ty := o.type) (consts := args.map fun | .const _ => true | _ => false) hS (LR.evals hE args) h
    simp only [Array.toArray_toList] at this
    simp only [resolve, Sem.run_bind, Sem.run_pure, Result.andThen_ok, invoke]
    exact this
  · exact h.elim

end
end Go.Proofs.YtmknkpcdfkpobaaA
