/- Slices that no one will write any more: how one's own become such, and how they are read. -/
import Derived.Test.YtmknkpcdfkpobaaA17
set_option linter.unusedVariables false
set_option linter.unusedSimpArgs false
namespace Go.Proofs.YtmknkpcdfkpobaaA
open Go.RowKit

theorem ACalls.conv {P : Program} {f : FuncId} {args : List Value} {H : AH} {Q Q2 : Value → AH → Prop} (h : ACalls P f args H Q)
    (hc : ∀ v H1, Q v H1 → ∀ (B : Nat) (ρ ρ' : Ren) (w w' : World) (v' : Value), Sim B ρ H w → RenLe ρ ρ' → Sim B ρ' H1 w' → VR ρ' v v' → ∃ v2 H2 ρ2, Q2 v2 H2 ∧ VR ρ2 v2 v' ∧ Sim B ρ2 H2 w' ∧ RenLe ρ ρ2) :
    ACalls P f args H Q2 := by
  intro B ρ w args' hS hL
  refine (h B ρ w args' hS hL).mono ?_
  rintro e w' ⟨v, v', H', ρ', he, hQ, hv, hS', hle, hB⟩
  obtain ⟨v2, H2, ρ2, h1, h2, h3, h4⟩ := hc v H' hQ B ρ ρ' w w' v' hS hle hS' hv
  exact ⟨v2, v', H2, ρ2, he, h1, h2, h3, h4, hB⟩

/-- A slice of one's own. -/
structure FR where
  sz : Nat
  cs : List Value
  a : Option Addr
  n : Nat
  cap : Nat

theorem Sim.frz1 {B : Nat} {ρ : Ren} {H : AH} {w : World} (hS : Sim B ρ H w) {lo sz : Nat} {cs : List Value} {a : Option Addr} {n cap : Nat} (ho : Own H lo sz cs a n cap) (hn : cs.all noId = true) :
    ∃ ρ2 H2, RenLe ρ ρ2 ∧ Sim B ρ2 H2 w ∧ H2.next = H.next ∧ (∀ b, b < lo → H2.blk b = H.blk b) ∧ (∀ b, a ≠ some ⟨b, 0, some 0⟩ → H2.blk b = H.blk b) ∧ ∀ x, VR ρ (.slice a n cap) x → VR ρ2 (FS cs n) x := by
  rcases ho with ⟨rfl, rfl, rfl, rfl⟩ | ⟨b, spare, rfl, h1, h2, h3, h4, h5, h6, h7⟩
  · refine ⟨ρ, H, RenLe.refl ρ, hS, rfl, fun _ _ => rfl, fun _ _ => rfl, fun x hx => ?_⟩
    cases hx
    exact .frzN rfl
  · obtain ⟨r, hr, _⟩ := hS.get b _ h3
    obtain ⟨ρ2, g0, g1, g2, g3⟩ := hS.freeze h3 hr hn
    refine ⟨ρ2, H.kill b, g1, g2, rfl, fun b' hb' => upd_ne _ _ (by omega), fun b' hb' => upd_ne _ _ (fun e => hb' (by rw [e])), fun x hx => ?_⟩
    cases hx with
    | slEx hr' =>
      rw [hr] at hr'; cases hr'
      exact VR.fs h6 g3
    | slZ =>
      have : cs = [] := List.length_eq_zero_iff.1 (by rw [h4, Nat.zero_mul])
      exact .frzZ (by simpa using this)

theorem Own.keep {H H2 : AH} {lo sz : Nat} {cs : List Value} {a : Option Addr} {n cap : Nat} (h : Own H lo sz cs a n cap) (hn : H2.next = H.next) (hb : ∀ b, a = some ⟨b, 0, some 0⟩ → H2.blk b = H.blk b) : Own H2 lo sz cs a n cap := by
  rcases h with h | ⟨b, spare, rfl, h1, h2, h3, h4⟩
  · exact .inl h
  · exact .inr ⟨b, spare, rfl, h1, by rw [hn]; exact h2, by rw [hb b rfl]; exact h3, h4⟩

def FR.ok (H : AH) (lo : Nat) (r : FR) : Prop := Own H lo r.sz r.cs r.a r.n r.cap ∧ r.cs.all noId = true

/-- Slices of one's own, of blocks that are not the same. -/
def FRs (H : AH) (lo : Nat) : List FR → Prop
  | [] => True
  | r :: l => r.ok H lo ∧ (∀ s ∈ l, s.a ≠ r.a ∨ s.a = none) ∧ FRs H lo l

theorem FRs.keep {H H2 : AH} {lo : Nat} (hn : H2.next = H.next) : ∀ {l : List FR}, (∀ s ∈ l, ∀ b, s.a = some ⟨b, 0, some 0⟩ → H2.blk b = H.blk b) → FRs H lo l → FRs H2 lo l
  | [], _, _ => trivial
  | r :: l, hb, h => ⟨⟨h.1.1.keep hn (hb r (by simp)), h.1.2⟩, h.2.1, FRs.keep hn (fun s hs => hb s (by simp [hs])) h.2.2⟩

theorem Sim.frzs {B lo : Nat} {w : World} : ∀ (l : List FR) {ρ : Ren} {H : AH} (hS : Sim B ρ H w) (h : FRs H lo l),
    ∃ ρ2 H2, RenLe ρ ρ2 ∧ Sim B ρ2 H2 w ∧ H2.next = H.next ∧ (∀ b, b < lo → H2.blk b = H.blk b) ∧ ∀ r ∈ l, ∀ x, VR ρ (.slice r.a r.n r.cap) x → VR ρ2 (FS r.cs r.n) x
  | [], ρ, H, hS, _ => ⟨ρ, H, RenLe.refl ρ, hS, rfl, fun _ _ => rfl, fun r hr => by cases hr⟩
  | r :: l, ρ, H, hS, h => by
    obtain ⟨ρ2, H2, g1, g2, g3, g4, g5, g6⟩ := hS.frz1 h.1.1 h.1.2
    obtain ⟨ρ3, H3, k1, k2, k3, k4, k5⟩ := Sim.frzs l g2 (FRs.keep g3 (fun s hs b hb => g5 b (fun e => by
      rcases h.2.1 s hs with h1 | h1
      · exact h1 (by rw [hb, e])
      · rw [h1] at hb; cases hb)) h.2.2)
    refine ⟨ρ3, H3, g1.trans k1, k2, by rw [k3, g3], fun b hb => by rw [k4 b hb, g4 b hb], fun s hs x hx => ?_⟩
    rcases List.mem_cons.1 hs with rfl | hs
    · exact (g6 x hx).mono k1
    · exact k5 s hs x (hx.mono g1)

def Cv (L : List FR) (v v2 : Value) : Prop := (noId v = true ∧ v2 = v) ∨ ∃ r ∈ L, v = .slice r.a r.n r.cap ∧ v2 = FS r.cs r.n

def CvL (L : List FR) : List Value → List Value → Prop
  | [], [] => True
  | v :: l, v2 :: l2 => Cv L v v2 ∧ CvL L l l2
  | _, _ => False

theorem noId_fs (cs : List Value) (n : Nat) : noId (FS cs n) = true := rfl

theorem Cv.vr {L : List FR} {ρ ρ2 ρ3 : Ren} (h12 : RenLe ρ ρ2) (hz : ∀ b o v, ρ2.z b o v → ρ3.z b o v) (h : ∀ r ∈ L, ∀ x, VR ρ (.slice r.a r.n r.cap) x → VR ρ2 (FS r.cs r.n) x) {v v2 x : Value} (hc : Cv L v v2) (hv : VR ρ v x) : VR ρ3 v2 x := by
  rcases hc with ⟨h1, rfl⟩ | ⟨r, hr, rfl, rfl⟩
  · exact VR.toPure hz h1 (hv.mono h12)
  · exact VR.toPure hz (noId_fs _ _) (h r hr x hv)

theorem CvL.lr {L : List FR} {ρ ρ2 ρ3 : Ren} (h12 : RenLe ρ ρ2) (hz : ∀ b o v, ρ2.z b o v → ρ3.z b o v) (h : ∀ r ∈ L, ∀ x, VR ρ (.slice r.a r.n r.cap) x → VR ρ2 (FS r.cs r.n) x) :
    ∀ {l l2 l' : List Value}, CvL L l l2 → LR ρ l l' → LR ρ3 l2 l'
  | [], [], [], _, _ => trivial
  | [], [], _ :: _, _, hl => hl.elim
  | v :: l, v2 :: l2, [], _, hl => hl.elim
  | v :: l, v2 :: l2, x :: l', hc, hl => ⟨hc.1.vr h12 hz h hl.1, CvL.lr h12 hz h hc.2 hl.2⟩
  | [], _ :: _, _, hc, _ => hc.elim
  | _ :: _, [], _, hc, _ => hc.elim

/-- What a function leaves is a value without names, and nothing else. -/
theorem ACalls.frz {P : Program} {f : FuncId} {args : List Value} {H : AH} {Q : Value → AH → Prop} {F : Value → Prop} (h : ACalls P f args H Q)
    (hq : ∀ v H1, Q v H1 → Ext H H1 ∧ ∃ L : List FR, FRs H1 H.next L ∧ ∃ v2, F v2 ∧ (Cv L v v2 ∨ ∃ l l2, v = .tuple l.toArray ∧ v2 = .tuple l2.toArray ∧ CvL L l l2)) : ACalls P f args H (fun v H' => F v ∧ H' = H) := by
  refine h.conv ?_
  intro v H1 hQ B ρ ρ' w w' v' hS hle hS' hv
  obtain ⟨hE, L, hL, v2, hF, hc⟩ := hq v H1 hQ
  obtain ⟨ρ2, H2, g1, g2, g3, g4, g5⟩ := Sim.frzs L hS' hL
  obtain ⟨k1, k2⟩ := hS.restrict (hle.trans g1) g2 ⟨by rw [g3]; exact hE.next, fun b hb => by rw [g4 b hb]; exact hE.blk b hb⟩
  refine ⟨v2, H, _, ⟨hF, rfl⟩, ?_, k1, k2⟩
  rcases hc with hc | ⟨l, l2, rfl, rfl, hc⟩
  · exact hc.vr (ρ3 := ⟨ρ.f, ρ2.z⟩) g1 (fun _ _ _ h => h) g5 hv
  · cases hv with
    | tuple hs hi =>
      refine VR.tupleL ?_
      have := CvL.lr (ρ3 := ⟨ρ.f, ρ2.z⟩) g1 (fun _ _ _ h => h) g5 hc (LR.of_arr hs hi)
      simpa using this

/-- A slice that no one writes, as one of a block that is only read. -/
theorem Sim.thaw {B : Nat} {ρ : Ren} {H : AH} {w : World} (hS : Sim B ρ H w) {cs : List Value} {n sz : Nat} {x : Value} (hv : VR ρ (FS cs n) x) (hl : cs.length = n * sz) (hz : 0 < sz) :
    ∃ ρ1 H1 a cap, RenLe ρ ρ1 ∧ Sim B ρ1 H1 w ∧ Ext H H1 ∧ VR ρ1 (.slice a n cap) x ∧ Sl H1 sz cs a n cap ∧ (∀ b o sp, a = some ⟨b, o, sp⟩ → H.next ≤ b ∧ b < H1.next) := by
  have hlen : cs.toArray.toList = cs := rfl
  have hl' := hl
  clear hl
  generalize hm : n * sz = m at hl'
  cases hv with
  | func _ hm => cases hm
  | frzN h =>
    have hl : cs.length = 0 * sz := hl'.trans hm.symm
    exact ⟨ρ, H, none, 0, RenLe.refl ρ, hS, Ext.refl H, .slNil, ⟨hl, Nat.le_refl _, fun _ => ⟨rfl, rfl⟩, fun h => absurd h (Nat.lt_irrefl 0)⟩, fun b o sp e => by cases e⟩
  | frzZ h =>
    rename_i a'
    have hl : cs.length = 0 * sz := hl'.trans hm.symm
    let H1 : AH := ⟨H.blk, H.next + 1⟩
    refine ⟨ρ, H1, some ⟨H.next, 0, some 0⟩, 0, RenLe.refl ρ, ⟨hS.base, hS.get, hS.inj, fun b hb => hS.fresh b (Nat.le_of_succ_le hb), hS.frz, hS.own⟩, ⟨Nat.le_succ _, fun _ _ => rfl⟩, .slZ,
      ⟨hl, Nat.le_refl _, fun e => (by cases e), fun h => absurd h (Nat.lt_irrefl 0)⟩, fun b o sp e => by cases e; exact ⟨Nat.le_refl _, Nat.lt_succ_self _⟩⟩
  | frzS hc h =>
    rename_i c' b o
    have hl : cs.length = n * sz := hl'.trans hm.symm
    clear hl' hm
    rw [hlen] at h
    have hle : ∀ r, RenLe ρ (ρ.upd H.next r) := fun r => ⟨fun b x hb => (by
      rw [Ren.upd_ne]; · exact hb
      · rintro rfl; rw [(hS.fresh H.next (Nat.le_refl _)).2] at hb; cases hb), fun _ _ _ h => h⟩
    by_cases hcs : cs = []
    · subst hcs
      have hn0 : n = 0 := by
        rcases Nat.mul_eq_zero.1 (show n * sz = 0 from hl.symm) with h | h
        · exact h
        · omega
      subst hn0
      let H1 : AH := ⟨H.blk, H.next + 1⟩
      refine ⟨ρ.upd H.next ⟨b, o, 0⟩, H1, some ⟨H.next, 0, some 0⟩, c', hle _, ⟨hS.base, ?_, ?_, ?_, ?_, ?_⟩, ⟨Nat.le_succ _, fun _ _ => rfl⟩, ?_, ⟨hl, Nat.zero_le _, fun e => (by cases e), fun h => absurd h (Nat.lt_irrefl 0)⟩,
        fun b o sp e => by cases e; exact ⟨Nat.le_refl _, Nat.lt_succ_self _⟩⟩
      · intro b1 x hb
        obtain ⟨r', h1, h2⟩ := hS.get b1 x hb
        exact ⟨r', (hle _).f _ _ h1, AObj.at_mono (hle _) rfl h2⟩
      · intro b1 b2 x x' r1 r2 hne hb hb' hrw h1 h2
        have e1 : b1 ≠ H.next := by rintro rfl; have := (hS.fresh H.next (Nat.le_refl _)).1; rw [show H.blk H.next = some x from hb] at this; cases this
        have e2 : b2 ≠ H.next := by rintro rfl; have := (hS.fresh H.next (Nat.le_refl _)).1; rw [show H.blk H.next = some x' from hb'] at this; cases this
        rw [Ren.upd_ne _ _ e1] at h1
        rw [Ren.upd_ne _ _ e2] at h2
        exact hS.inj b1 b2 x x' r1 r2 hne hb hb' hrw h1 h2
      · intro b1 hb1
        have hb1' : H.next + 1 ≤ b1 := hb1
        rw [Ren.upd_ne _ _ (by omega)]
        exact hS.fresh b1 (by omega)
      · intro b1 o1 v hz1
        exact hS.frz b1 o1 v hz1
      · intro b1 x r1 hb hrw h1 k
        have e1 : b1 ≠ H.next := by rintro rfl; have := (hS.fresh H.next (Nat.le_refl _)).1; rw [show H.blk H.next = some x from hb] at this; cases this
        rw [Ren.upd_ne _ _ e1] at h1
        exact hS.own b1 x r1 hb hrw h1 k
      · have := VR.slEx (o := 0) (n := 0) (c := c') (Ren.upd_same ρ H.next ⟨b, o, 0⟩)
        exact this
    · obtain ⟨v0, hv0⟩ : ∃ v, cs[0]? = some v := by
        cases cs with
        | nil => exact absurd rfl hcs
        | cons v l => exact ⟨v, rfl⟩
      obtain ⟨_, c, elem, fz, _, g1, _, _⟩ := hS.frz _ _ _ (h 0 v0 hv0)
      have cell : ∀ i v, cs[i]? = some v → okCell v = true ∧ ∃ v', c[o + i]? = some v' ∧ VR ρ v v' := by
        intro i v hi
        obtain ⟨ok, c2, e2, f2, v', k1, k2, k3⟩ := hS.frz _ _ _ (h i v hi)
        rw [g1] at k1; cases k1
        exact ⟨ok, v', k2, k3.mono ρ.pure_le⟩
      have hsz : o + cs.length ≤ c.size := by
        have hlt : cs.length - 1 < cs.length := by
          have : cs.length ≠ 0 := fun e => hcs (List.length_eq_zero_iff.1 e)
          omega
        obtain ⟨_, v', hv', _⟩ := cell (cs.length - 1) cs[cs.length - 1] (List.getElem?_eq_getElem hlt)
        have := (Array.getElem?_eq_some_iff.1 hv').1
        omega
      have hn : ∀ b1 x, H.blk b1 = some x → b1 ≠ H.next := by
        rintro b1 x hb rfl
        rw [(hS.fresh H.next (Nat.le_refl _)).1] at hb; cases hb
      refine ⟨ρ.upd H.next ⟨b, o, c.size⟩, H.alloc (.cells cs false), some ⟨H.next, 0, some 0⟩, c', hle _, ⟨hS.base, ?_, ?_, ?_, ?_, ?_⟩, Ext.alloc H _, ?_,
        ⟨hl, hc, fun e => (by cases e), fun _ => ⟨H.next, 0, 0, rfl, Nat.lt_succ_self _, cs, false, AH.blk_alloc _ _, by simp, by simp⟩⟩, fun b o sp e => by cases e; exact ⟨Nat.le_refl _, Nat.lt_succ_self _⟩⟩
      · intro b1 x hb
        by_cases hbn : b1 = H.next
        · subst hbn
          rw [AH.blk_alloc] at hb; cases hb
          refine ⟨_, Ren.upd_same _ _ _, c, elem, fz, g1, rfl, hsz, fun i v hi => ?_, fun e => by cases e⟩
          obtain ⟨ok, v', k1, k2⟩ := cell i v hi
          exact ⟨ok, v', k1, k2.mono (hle _)⟩
        · rw [AH.blk_alloc_ne _ _ hbn] at hb
          obtain ⟨r', h1, h2⟩ := hS.get b1 x hb
          exact ⟨r', (hle _).f _ _ h1, AObj.at_mono (hle _) rfl h2⟩
      · intro b1 b2 x x' r1 r2 hne hb hb' hrw h1 h2
        by_cases e1 : b1 = H.next
        · subst e1
          rw [AH.blk_alloc] at hb; cases hb; cases hrw
        · rw [AH.blk_alloc_ne _ _ e1] at hb
          rw [Ren.upd_ne _ _ e1] at h1
          by_cases e2 : b2 = H.next
          · subst e2
            rw [Ren.upd_same] at h2; cases h2
            intro e
            have := hS.own b1 x r1 hb hrw h1 (o + 0)
            rw [e] at this; exact this v0 (h 0 v0 hv0)
          · rw [AH.blk_alloc_ne _ _ e2] at hb'
            rw [Ren.upd_ne _ _ e2] at h2
            exact hS.inj b1 b2 x x' r1 r2 hne hb hb' hrw h1 h2
      · intro b1 hb1
        have hb1' : H.next + 1 ≤ b1 := hb1
        rw [Ren.upd_ne _ _ (by omega), AH.blk_alloc_ne _ _ (by omega)]
        exact hS.fresh b1 (by omega)
      · intro b1 o1 v hz1
        exact hS.frz b1 o1 v hz1
      · intro b1 x r1 hb hrw h1 k
        by_cases e1 : b1 = H.next
        · subst e1
          rw [AH.blk_alloc] at hb; cases hb; cases hrw
        · rw [AH.blk_alloc_ne _ _ e1] at hb
          rw [Ren.upd_ne _ _ e1] at h1
          exact hS.own b1 x r1 hb hrw h1 k
      · have := VR.slEx (o := 0) (n := n) (c := c') (Ren.upd_same ρ H.next ⟨b, o, c.size⟩)
        exact this

theorem LR.split {ρ : Ren} {v : Value} {post : List Value} : ∀ {pre l' : List Value}, LR ρ (pre ++ v :: post) l' → ∃ p' x q', l' = p' ++ x :: q' ∧ LR ρ pre p' ∧ VR ρ v x ∧ LR ρ post q'
  | [], x :: l', h => ⟨[], x, l', rfl, trivial, h.1, h.2⟩
  | [], [], h => h.elim
  | a :: pre, [], h => h.elim
  | a :: pre, x :: l', h => by
    obtain ⟨p', y, q', rfl, h1, h2, h3⟩ := LR.split h.2
    exact ⟨x :: p', y, q', rfl, ⟨h.1, h1⟩, h2, h3⟩

/-- What a function does with a slice that is only read, it does with one that no one writes. -/
theorem ACalls.thaw {P : Program} {f : FuncId} {cs : List Value} {n : Nat} {H : AH} {Q : Value → AH → Prop} (sz : Nat) (pre post : List Value) (hl : cs.length = n * sz) (hz : 0 < sz)
    (h : ∀ a cap H1, Ext H H1 → Sl H1 sz cs a n cap → (∀ b o sp, a = some ⟨b, o, sp⟩ → H.next ≤ b ∧ b < H1.next) → ACalls P f (pre ++ .slice a n cap :: post) H1 Q) : ACalls P f (pre ++ FS cs n :: post) H Q := by
  intro B ρ w args' hS hL
  obtain ⟨p', x, q', he, h1, h2, h3⟩ := hL.split
  obtain ⟨ρ1, H1, a, cap, g1, g2, g3, g4, g5, g6⟩ := hS.thaw h2 hl hz
  have hL1 : LR ρ1 (pre ++ .slice a n cap :: post) args'.toList := by
    rw [he]
    exact (h1.mono g1).append ⟨g4, h3.mono g1⟩
  refine (h a cap H1 g3 g5 g6 B ρ1 w args' g2 hL1).mono ?_
  rintro e w' ⟨v, v', H', ρ', he, hQ, hv, hS', hle, hB⟩
  exact ⟨v, v', H', ρ', he, hQ, hv, hS', g1.trans hle, hB⟩

/-- The nil slice is one that holds nothing. -/
theorem ACalls.nil {P : Program} {f : FuncId} {H : AH} {Q : Value → AH → Prop} (pre post : List Value) (h : ACalls P f (pre ++ FS [] 0 :: post) H Q) : ACalls P f (pre ++ .slice none 0 0 :: post) H Q := by
  intro B ρ w args' hS hL
  obtain ⟨p', x, q', he, h1, h2, h3⟩ := hL.split
  refine h B ρ w args' hS ?_
  rw [he]
  cases h2
  exact h1.append ⟨.frzN rfl, h3⟩

def AH.drop (H : AH) (a : Option Addr) : AH :=
  match a with
  | some x => H.kill x.block
  | none => H

/-- A slice of one's own is handed on, and not written any more. -/
theorem ACalls.frzArg {P : Program} {f : FuncId} {H : AH} {Q : Value → AH → Prop} {lo sz : Nat} {cs : List Value} {a : Option Addr} {n cap : Nat} (pre post : List Value) (ho : Own H lo sz cs a n cap) (hn : cs.all noId = true)
    (h : ACalls P f (pre ++ FS cs n :: post) (H.drop a) Q) : ACalls P f (pre ++ .slice a n cap :: post) H Q := by
  intro B ρ w args' hS hL
  obtain ⟨p', x, q', he, h1, h2, h3⟩ := hL.split
  have key : ∃ ρ2, RenLe ρ ρ2 ∧ Sim B ρ2 (H.drop a) w ∧ VR ρ2 (FS cs n) x := by
    rcases ho with ⟨rfl, rfl, rfl, rfl⟩ | ⟨b, spare, rfl, g1, g2, g3, g4, g5, g6, g7⟩
    · refine ⟨ρ, RenLe.refl ρ, hS, ?_⟩
      cases h2
      exact .frzN rfl
    · obtain ⟨r, hr, _⟩ := hS.get b _ g3
      obtain ⟨ρ2, k0, k1, k2, k3⟩ := hS.freeze g3 hr hn
      refine ⟨ρ2, k1, k2, ?_⟩
      cases h2 with
      | slEx hr' =>
        rw [hr] at hr'; cases hr'
        exact VR.fs g6 k3
      | slZ =>
        have : cs = [] := List.length_eq_zero_iff.1 (by rw [g4, Nat.zero_mul])
        exact .frzZ (by simpa using this)
  obtain ⟨ρ2, k1, k2, k3⟩ := key
  refine (h B ρ2 w args' k2 (by rw [he]; exact (h1.mono k1).append ⟨k3, h3.mono k1⟩)).mono ?_
  rintro e w' ⟨v, v', H', ρ', he, hQ, hv, hS', hle, hB⟩
  exact ⟨v, v', H', ρ', he, hQ, hv, hS', k1.trans hle, hB⟩

theorem alen_fs (cs : List Value) (n : Nat) : alen (FS cs n) = some n := rfl
theorem acells_fs {H : AH} {sz n : Nat} {cs : List Value} (hl : cs.length = n * sz) : acells H sz n (FS cs n) = some cs := by
  show (if n ≤ n ∧ n * sz ≤ cs.length then some (cs.take (n * sz)) else none) = some cs
  rw [if_pos ⟨Nat.le_refl _, by omega⟩, ← hl, List.take_length]

/-- One element more, out of a literal. -/
theorem XApp.oneF {z : List Value} {bytes : Nat} {a : Option Addr} {n cap : Nat} {cs l : List Value} {lo : Nat} {H : AH} {K : Value → AH → Prop} {t : Tag K} (ho : Own H lo z.length cs a n cap)
    (hl : l.length = z.length) (hb : (n + 1) * bytes ≤ 140737488355328) (hlo : lo ≤ H.next)
    (h : ∀ a' cap' H', Own H' lo z.length (cs ++ l) a' (n + 1) cap' → Mod H H' a → K (.slice a' (n + 1) cap') H') : XApp z bytes (.slice a n cap) (FS l 1) H K t :=
  XApp.own ho (m := 1) rfl (acells_fs (by omega)) hb hlo h

/-! ### What stands in a slice -/

theorem xelem_z {α : Type} {f : α → List Value} (sz : Nat) (hf : ∀ x, (f x).length = sz) (d : α) {xs : List α} {n : Nat} {k : IntKind} {i : Nat} {H : AH} {K : Value → AH → Prop} {t : Tag K} (hn : n = xs.length) (hi : i < xs.length) :
    xelem (FP (xs.flatMap f)) n sz (.int k i) H K t = K (FP (f (xs.getD i d) ++ (xs.drop (i + 1)).flatMap f)) H := by
  subst hn
  have hs : (0 ≤ (i : Int) ∧ (i : Int) < xs.length) = True := by simp; omega
  have hd : ∀ (l : List α) (i : Nat), i < l.length → (l.flatMap f).drop (i * sz) = f (l.getD i d) ++ (l.drop (i + 1)).flatMap f := by
    intro l
    induction l with
    | nil => intro i hi; simp at hi
    | cons a l ih =>
      intro i hi
      cases i with
      | zero => simp
      | succ i =>
        have e : (i + 1) * sz = (f a).length + i * sz := by rw [hf a, Nat.add_mul]; omega
        rw [List.flatMap_cons, e, List.drop_append, List.drop_of_length_le (by omega), List.nil_append, Nat.add_sub_cancel_left, ih i (by simpa using hi)]
        rfl
  rw [xelem_f, hs, XS_true, Int.toNat_natCast, hd xs i hi]

/-- An element's place, where the index is within. -/
theorem xelem_n {b o n sz : Nat} {sp : Option Nat} {k : IntKind} {i : Nat} {H : AH} {K : Value → AH → Prop} {t : Tag K} (hi : i < n) : xelem (.pointer (some ⟨b, o, sp⟩)) n sz (.int k i) H K t = K (.pointer (some ⟨b, o + i * sz, none⟩)) H := by
  have hs : (0 ≤ (i : Int) ∧ (i : Int) < n) = True := by simp; omega
  rw [xelem_p, hs, XS_true, Int.toNat_natCast]

theorem xelem_i {xs : List Int} {n : Nat} {k : IntKind} {i : Nat} {H : AH} {K : Value → AH → Prop} {t : Tag K} (hn : n = xs.length) (hi : i < xs.length) :
    xelem (FP (xs.map (.int .i64))) n 1 (.int k i) H K t = K (FP (.int .i64 (xs.getD i 0) :: (xs.drop (i + 1)).map (.int .i64))) H := by
  have e : ∀ l : List Int, l.map (Value.int .i64) = l.flatMap fun x => [.int .i64 x] := fun l => by
    induction l with
    | nil => rfl
    | cons a l ih => rw [List.map_cons, ih]; rfl
  rw [e, e, xelem_z (f := fun x => [.int .i64 x]) 1 (fun _ => rfl) 0 hn hi]
  rfl

theorem xelem.mk' {b o len sz : Nat} {sp : Option Nat} {k : IntKind} {i : Int} {H : AH} {K : Value → AH → Prop} {t : Tag K} (h1 : 0 ≤ i ∧ i < len) (h : K (.pointer (some ⟨b, o + i.toNat * sz, none⟩)) H) : xelem (.pointer (some ⟨b, o, sp⟩)) len sz (.int k i) H K t := ⟨h1, h⟩

theorem xelem_d {l : List Value} {n sz : Nat} {k : IntKind} {i : Nat} {H : AH} {K : Value → AH → Prop} {t : Tag K} (hi : i < n) : xelem (FP l) n sz (.int k i) H K t = K (FP (l.drop (i * sz))) H := by
  have hs : (0 ≤ (i : Int) ∧ (i : Int) < n) = True := by simp; omega
  rw [xelem_f, hs, XS_true, Int.toNat_natCast]

theorem drop_get0 (l : List Value) (k : Nat) : (l.drop k)[0]? = l[k]? := by rw [List.getElem?_drop]; rfl

/-- A loop; what the slots hold that don't count is left open. -/
theorem XL.lp {P : Program} {a : AC} {Q : AEx → List Value → AH → Prop} {env : List Value} {H : AH} {t : Tag a} {u : Tag Q} {β : Type} (st : β → (Nat → Value) → List Value) (Inv : β → AH → Prop) (μ : β → Nat)
    (x0 : β) (he : env = st x0 (fun n => env.getD n undef)) (hI : Inv x0 H)
    (round : ∀ x j H, Inv x H → xwp P a (andThen (fun env' H' => ∃ y, env' = st y (fun n => env'.getD n undef) ∧ Inv y H' ∧ μ y < μ x) Q) (st x j) H .mk .mk) : XL P a Q env H t u :=
  XL.loop st Inv μ x0 _ he hI round

/-! Indices that are literals -/

theorem xelem_c0 {b o n sz : Nat} {sp : Option Nat} {k : IntKind} {H : AH} {K : Value → AH → Prop} {t : Tag K} : xelem (.pointer (some ⟨b, o, sp⟩)) (n + 1) sz (.int k 0) H K t = K (.pointer (some ⟨b, o, none⟩)) H := by
  have := xelem_n (b := b) (o := o) (n := n + 1) (sz := sz) (sp := sp) (k := k) (i := 0) (H := H) (K := K) (t := t) (by omega)
  simpa using this
theorem xelem_e0 {cs : List Value} {n sz : Nat} {k : IntKind} {H : AH} {K : Value → AH → Prop} {t : Tag K} : xelem (FP cs) (n + 1) sz (.int k 0) H K t = K (FP cs) H := by
  have := xelem_d (l := cs) (n := n + 1) (sz := sz) (k := k) (i := 0) (H := H) (K := K) (t := t) (by omega)
  simpa using this
theorem xelem_c1 {b o n sz : Nat} {sp : Option Nat} {k : IntKind} {H : AH} {K : Value → AH → Prop} {t : Tag K} : xelem (.pointer (some ⟨b, o, sp⟩)) (n + 2) sz (.int k 1) H K t = K (.pointer (some ⟨b, o + sz, none⟩)) H := by
  have := xelem_n (b := b) (o := o) (n := n + 2) (sz := sz) (sp := sp) (k := k) (i := 1) (H := H) (K := K) (t := t) (by omega)
  simpa using this
theorem xelem_e1 {cs : List Value} {n sz : Nat} {k : IntKind} {H : AH} {K : Value → AH → Prop} {t : Tag K} : xelem (FP cs) (n + 2) sz (.int k 1) H K t = K (FP (cs.drop sz)) H := by
  have := xelem_d (l := cs) (n := n + 2) (sz := sz) (k := k) (i := 1) (H := H) (K := K) (t := t) (by omega)
  simpa using this
theorem xelem_c2 {b o n sz : Nat} {sp : Option Nat} {k : IntKind} {H : AH} {K : Value → AH → Prop} {t : Tag K} : xelem (.pointer (some ⟨b, o, sp⟩)) (n + 3) sz (.int k 2) H K t = K (.pointer (some ⟨b, o + 2 * sz, none⟩)) H := by
  have := xelem_n (b := b) (o := o) (n := n + 3) (sz := sz) (sp := sp) (k := k) (i := 2) (H := H) (K := K) (t := t) (by omega)
  simpa using this
theorem xelem_e2 {cs : List Value} {n sz : Nat} {k : IntKind} {H : AH} {K : Value → AH → Prop} {t : Tag K} : xelem (FP cs) (n + 3) sz (.int k 2) H K t = K (FP (cs.drop (2 * sz))) H := by
  have := xelem_d (l := cs) (n := n + 3) (sz := sz) (k := k) (i := 2) (H := H) (K := K) (t := t) (by omega)
  simpa using this
theorem xelem_c3 {b o n sz : Nat} {sp : Option Nat} {k : IntKind} {H : AH} {K : Value → AH → Prop} {t : Tag K} : xelem (.pointer (some ⟨b, o, sp⟩)) (n + 4) sz (.int k 3) H K t = K (.pointer (some ⟨b, o + 3 * sz, none⟩)) H := by
  have := xelem_n (b := b) (o := o) (n := n + 4) (sz := sz) (sp := sp) (k := k) (i := 3) (H := H) (K := K) (t := t) (by omega)
  simpa using this
theorem xelem_e3 {cs : List Value} {n sz : Nat} {k : IntKind} {H : AH} {K : Value → AH → Prop} {t : Tag K} : xelem (FP cs) (n + 4) sz (.int k 3) H K t = K (FP (cs.drop (3 * sz))) H := by
  have := xelem_d (l := cs) (n := n + 4) (sz := sz) (k := k) (i := 3) (H := H) (K := K) (t := t) (by omega)
  simpa using this
theorem xelem_c4 {b o n sz : Nat} {sp : Option Nat} {k : IntKind} {H : AH} {K : Value → AH → Prop} {t : Tag K} : xelem (.pointer (some ⟨b, o, sp⟩)) (n + 5) sz (.int k 4) H K t = K (.pointer (some ⟨b, o + 4 * sz, none⟩)) H := by
  have := xelem_n (b := b) (o := o) (n := n + 5) (sz := sz) (sp := sp) (k := k) (i := 4) (H := H) (K := K) (t := t) (by omega)
  simpa using this
theorem xelem_e4 {cs : List Value} {n sz : Nat} {k : IntKind} {H : AH} {K : Value → AH → Prop} {t : Tag K} : xelem (FP cs) (n + 5) sz (.int k 4) H K t = K (FP (cs.drop (4 * sz))) H := by
  have := xelem_d (l := cs) (n := n + 5) (sz := sz) (k := k) (i := 4) (H := H) (K := K) (t := t) (by omega)
  simpa using this
theorem xelem_c5 {b o n sz : Nat} {sp : Option Nat} {k : IntKind} {H : AH} {K : Value → AH → Prop} {t : Tag K} : xelem (.pointer (some ⟨b, o, sp⟩)) (n + 6) sz (.int k 5) H K t = K (.pointer (some ⟨b, o + 5 * sz, none⟩)) H := by
  have := xelem_n (b := b) (o := o) (n := n + 6) (sz := sz) (sp := sp) (k := k) (i := 5) (H := H) (K := K) (t := t) (by omega)
  simpa using this
theorem xelem_e5 {cs : List Value} {n sz : Nat} {k : IntKind} {H : AH} {K : Value → AH → Prop} {t : Tag K} : xelem (FP cs) (n + 6) sz (.int k 5) H K t = K (FP (cs.drop (5 * sz))) H := by
  have := xelem_d (l := cs) (n := n + 6) (sz := sz) (k := k) (i := 5) (H := H) (K := K) (t := t) (by omega)
  simpa using this
theorem xelem_c6 {b o n sz : Nat} {sp : Option Nat} {k : IntKind} {H : AH} {K : Value → AH → Prop} {t : Tag K} : xelem (.pointer (some ⟨b, o, sp⟩)) (n + 7) sz (.int k 6) H K t = K (.pointer (some ⟨b, o + 6 * sz, none⟩)) H := by
  have := xelem_n (b := b) (o := o) (n := n + 7) (sz := sz) (sp := sp) (k := k) (i := 6) (H := H) (K := K) (t := t) (by omega)
  simpa using this
theorem xelem_e6 {cs : List Value} {n sz : Nat} {k : IntKind} {H : AH} {K : Value → AH → Prop} {t : Tag K} : xelem (FP cs) (n + 7) sz (.int k 6) H K t = K (FP (cs.drop (6 * sz))) H := by
  have := xelem_d (l := cs) (n := n + 7) (sz := sz) (k := k) (i := 6) (H := H) (K := K) (t := t) (by omega)
  simpa using this
theorem xelem_c7 {b o n sz : Nat} {sp : Option Nat} {k : IntKind} {H : AH} {K : Value → AH → Prop} {t : Tag K} : xelem (.pointer (some ⟨b, o, sp⟩)) (n + 8) sz (.int k 7) H K t = K (.pointer (some ⟨b, o + 7 * sz, none⟩)) H := by
  have := xelem_n (b := b) (o := o) (n := n + 8) (sz := sz) (sp := sp) (k := k) (i := 7) (H := H) (K := K) (t := t) (by omega)
  simpa using this
theorem xelem_e7 {cs : List Value} {n sz : Nat} {k : IntKind} {H : AH} {K : Value → AH → Prop} {t : Tag K} : xelem (FP cs) (n + 8) sz (.int k 7) H K t = K (FP (cs.drop (7 * sz))) H := by
  have := xelem_d (l := cs) (n := n + 8) (sz := sz) (k := k) (i := 7) (H := H) (K := K) (t := t) (by omega)
  simpa using this
theorem xelem_c8 {b o n sz : Nat} {sp : Option Nat} {k : IntKind} {H : AH} {K : Value → AH → Prop} {t : Tag K} : xelem (.pointer (some ⟨b, o, sp⟩)) (n + 9) sz (.int k 8) H K t = K (.pointer (some ⟨b, o + 8 * sz, none⟩)) H := by
  have := xelem_n (b := b) (o := o) (n := n + 9) (sz := sz) (sp := sp) (k := k) (i := 8) (H := H) (K := K) (t := t) (by omega)
  simpa using this
theorem xelem_e8 {cs : List Value} {n sz : Nat} {k : IntKind} {H : AH} {K : Value → AH → Prop} {t : Tag K} : xelem (FP cs) (n + 9) sz (.int k 8) H K t = K (FP (cs.drop (8 * sz))) H := by
  have := xelem_d (l := cs) (n := n + 9) (sz := sz) (k := k) (i := 8) (H := H) (K := K) (t := t) (by omega)
  simpa using this
theorem xelem_c9 {b o n sz : Nat} {sp : Option Nat} {k : IntKind} {H : AH} {K : Value → AH → Prop} {t : Tag K} : xelem (.pointer (some ⟨b, o, sp⟩)) (n + 10) sz (.int k 9) H K t = K (.pointer (some ⟨b, o + 9 * sz, none⟩)) H := by
  have := xelem_n (b := b) (o := o) (n := n + 10) (sz := sz) (sp := sp) (k := k) (i := 9) (H := H) (K := K) (t := t) (by omega)
  simpa using this
theorem xelem_e9 {cs : List Value} {n sz : Nat} {k : IntKind} {H : AH} {K : Value → AH → Prop} {t : Tag K} : xelem (FP cs) (n + 10) sz (.int k 9) H K t = K (FP (cs.drop (9 * sz))) H := by
  have := xelem_d (l := cs) (n := n + 10) (sz := sz) (k := k) (i := 9) (H := H) (K := K) (t := t) (by omega)
  simpa using this

end Go.Proofs.YtmknkpcdfkpobaaA
