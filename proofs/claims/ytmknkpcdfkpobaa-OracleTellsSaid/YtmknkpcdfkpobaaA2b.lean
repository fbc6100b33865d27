/- Heaps that only grow; what came since is forgotten; blocks that are made, and not written any more. -/
import Derived.Test.YtmknkpcdfkpobaaA2
set_option linter.unusedVariables false
set_option linter.unusedSimpArgs false
namespace Go.Proofs.YtmknkpcdfkpobaaA
open Go.RowKit

/-- What was there is as it was. -/
structure Ext (H H' : AH) : Prop where
  next : H.next ≤ H'.next
  blk : ∀ b, b < H.next → H'.blk b = H.blk b

theorem Ext.refl (H : AH) : Ext H H := ⟨Nat.le_refl _, fun _ _ => rfl⟩
theorem Ext.trans {a b c : AH} (h : Ext a b) (k : Ext b c) : Ext a c := ⟨Nat.le_trans h.next k.next, fun x hx => (k.blk x (Nat.lt_of_lt_of_le hx h.next)).trans (h.blk x hx)⟩
theorem Ext.alloc (H : AH) (o : AObj) : Ext H (H.alloc o) := ⟨Nat.le_succ _, fun b hb => upd_ne _ _ (Nat.ne_of_lt hb)⟩
theorem Ext.set {H0 H : AH} (h : Ext H0 H) {b : Nat} (hb : H0.next ≤ b) (o : AObj) : Ext H0 (H.set b o) := ⟨h.next, fun x hx => by
  show upd H.blk b (some o) x = H0.blk x
  rw [upd_ne _ _ (by omega)]; exact h.blk x hx⟩
theorem Ext.kill {H0 H : AH} (h : Ext H0 H) {b : Nat} (hb : H0.next ≤ b) : Ext H0 (H.kill b) := ⟨h.next, fun x hx => by
  show upd H.blk b none x = H0.blk x
  rw [upd_ne _ _ (by omega)]; exact h.blk x hx⟩

theorem CellsAt.join {ρ ρ' : Ren} (hle : RenLe ρ ρ') {cs : List Value} {rw : Bool} {B : Nat} {r : RB} {w w' : World} (h : CellsAt ρ cs rw B r w) (k : CellsAt ρ' cs rw B r w') : CellsAt ⟨ρ.f, ρ'.z⟩ cs rw B r w' := by
  obtain ⟨c, elem, fz, h1, h2, h3, h4, h5⟩ := h
  obtain ⟨c', elem', fz', k1, k2, k3, k4, k5⟩ := k
  refine ⟨c', elem', fz', k1, k2, k3, fun i v hi => ?_, k5⟩
  obtain ⟨_, x, _, hx⟩ := h4 i v hi
  obtain ⟨ok, y, hy1, hy⟩ := k4 i v hi
  exact ⟨ok, y, hy1, hx.join hle hy⟩

theorem MapAt.join {ρ ρ' : Ren} (hle : RenLe ρ ρ') {es : List MapEntry} {clock : Nat} {B : Nat} {r : RB} {w w' : World} (h : MapAt ρ es clock B r w) (k : MapAt ρ' es clock B r w') : MapAt ⟨ρ.f, ρ'.z⟩ es clock B r w' := by
  obtain ⟨c, h1, h2, h3, h4⟩ := h
  obtain ⟨c', k1, k2, k3, k4⟩ := k
  refine ⟨c', k1, k2, k3, fun i e hi => ?_⟩
  obtain ⟨x, _, hx1, hx2, _⟩ := h4 i e hi
  obtain ⟨y, hy, hy1, hy2, hy3⟩ := k4 i e hi
  exact ⟨y, hy, hx1.join hle hy1, hx2.join hle hy2, hy3⟩

theorem AObj.join {ρ ρ' : Ren} (hle : RenLe ρ ρ') {o : AObj} {B : Nat} {r : RB} {w w' : World} (h : o.at ρ B r w) (k : o.at ρ' B r w') : o.at ⟨ρ.f, ρ'.z⟩ B r w' := by
  cases o with
  | cells cs rw => exact CellsAt.join hle h k
  | map es c => exact MapAt.join hle h k

/-- What came since is forgotten, but for what no one will write any more. -/
theorem Sim.restrict {B : Nat} {ρ ρ' : Ren} {H H1 : AH} {w w' : World} (hS : Sim B ρ H w) (hle : RenLe ρ ρ') (hS' : Sim B ρ' H1 w') (hE : Ext H H1) : Sim B ⟨ρ.f, ρ'.z⟩ H w' ∧ RenLe ρ ⟨ρ.f, ρ'.z⟩ := by
  have hlt : ∀ {b o}, H.blk b = some o → H1.blk b = some o := fun {b o} hb => by
    have : b < H.next := by
      rcases Nat.lt_or_ge b H.next with h | h
      · exact h
      · rw [(hS.fresh b h).1] at hb; cases hb
    rw [hE.blk b this]; exact hb
  refine ⟨⟨hS'.base, ?_, ?_, hS.fresh, hS'.frz, ?_⟩, ⟨fun _ _ h => h, hle.z⟩⟩
  · intro b o hb
    obtain ⟨r, h1, h2⟩ := hS.get b o hb
    obtain ⟨r', k1, k2⟩ := hS'.get b o (hlt hb)
    rw [hle.f _ _ h1] at k1; cases k1
    exact ⟨r, h1, AObj.join hle h2 k2⟩
  · intro b b' o o' r r' hne hb hb' hrw h1 h2
    exact hS'.inj b b' o o' r r' hne (hlt hb) (hlt hb') hrw (hle.f _ _ h1) (hle.f _ _ h2)
  · intro b o r hb hrw h1 k
    exact hS'.own b o r (hlt hb) hrw (hle.f _ _ h1) k

theorem VR.toPure {ρ ρ2 : Ren} (hz : ∀ b o v, ρ.z b o v → ρ2.z b o v) {v x : Value} (hn : noId v = true) (h : VR ρ v x) : VR ρ2 v x :=
  (h.pure hn).mono (ρ' := ρ2) (RenLe.mk (ρ := ρ.pure) (fun b r h => (by cases (show none = some r from h))) hz)

theorem frz_drop {ρ : Ren} {cs : List Value} {b o : Nat} (k : Nat) (h : ∀ i v, cs[i]? = some v → ρ.z b (o + i) v) : ∀ i v, (cs.drop k)[i]? = some v → ρ.z b (o + k + i) v := by
  intro i v hi
  rw [List.getElem?_drop] at hi
  rw [Nat.add_assoc]
  exact h _ _ hi

theorem VR.fp {ρ : Ren} {cs : List Value} {b o : Nat} (h : ∀ i v, cs[i]? = some v → ρ.z b (o + i) v) : VR ρ (FP cs) (.pointer (some ⟨b, o, none⟩)) := .frzP (by simpa using h)
theorem VR.fs {ρ : Ren} {cs : List Value} {b o n c : Nat} (hc : n ≤ c) (h : ∀ i v, cs[i]? = some v → ρ.z b (o + i) v) : VR ρ (FS cs n) (.slice (some ⟨b, o, none⟩) n c) := .frzS hc (by simpa using h)


theorem noId_ok {v : Value} (h : noId v = true) : okCell v = true := by
  cases v <;> first | rfl | simp [noId] at h

/-- Either a block of one's own, or one that no one writes. -/
def zK (cs : List Value) (v u : Value) (H : AH) (K : Value → AH → Prop) : Prop := K v (H.alloc (.cells cs true)) ∨ (cs.all noId = true ∧ K u H)

theorem Sim.allocZ {B : Nat} {ρ ρ1 : Ren} {H : AH} {w w1 : World} {cs : List Value} {r : RB} (hS : Sim B ρ H w) (hle : RenLe ρ ρ1) (hS1 : Sim B ρ1 (H.alloc (.cells cs true)) w1) (hr : ρ1 H.next = some r) (hn : cs.all noId = true) :
    ∃ ρ' : Ren, Sim B ρ' H w1 ∧ RenLe ρ ρ' ∧ ∀ i v, cs[i]? = some v → ρ'.z r.blk (r.sh + i) v := by
  have hb : (H.alloc (.cells cs true)).blk H.next = some (.cells (cs ++ []) true) := by rw [List.append_nil]; exact upd_same _ _ _
  obtain ⟨ρ2, g0, g1, g2, g3⟩ := hS1.freeze hb hr hn
  obtain ⟨k1, k2⟩ := hS.restrict (hle.trans g1) g2 ((Ext.alloc H _).kill (Nat.le_refl _))
  exact ⟨_, k1, k2, g3⟩

end Go.Proofs.YtmknkpcdfkpobaaA
