/- The abstract heap, the relation between it and the model's world, and how single steps of memory keep it. -/
import Derived.WalkKit
import Derived.Laws.CopyRow
import Derived.Laws.CopyOwn
import Derived.Orders
namespace Go.Proofs.YtmknkpcdfkpobaaA
open Go.RowKit

/-- Where an abstract block lies: the block, from which cell on, and how many cells that block has. -/
structure RB where
  blk : Nat
  sh : Nat
  csize : Nat

abbrev Ren := Nat → Option RB

/-- A value of which nothing is known. -/
abbrev unk : Value := .chan none

/-- An abstract value tells of a value. A slice's place bears some 0 where its capacity is known, some (k + 1) where it is a lower bound and its elements have k cells. -/
inductive VR (ρ : Ren) : Value → Value → Prop
  | unk (v : Value) : VR ρ (.chan none) v
  | bool (b : Bool) : VR ρ (.bool b) (.bool b)
  | int (k : IntKind) (n : Int) : VR ρ (.int k n) (.int k n)
  | string (s : ByteArray) : VR ρ (.string s) (.string s)
  | nilFunc : VR ρ .nilFunc .nilFunc
  | nilIface : VR ρ .nilIface .nilIface
  | ptrNil : VR ρ (.pointer none) (.pointer none)
  | ptr {b o : Nat} {r : RB} (h : ρ b = some r) : VR ρ (.pointer (some ⟨b, o, none⟩)) (.pointer (some ⟨r.blk, r.sh + o, none⟩))
  | slNil : VR ρ (.slice none 0 0) (.slice none 0 0)
  | slEx {b o n c : Nat} {r : RB} (h : ρ b = some r) : VR ρ (.slice (some ⟨b, o, some 0⟩) n c) (.slice (some ⟨r.blk, r.sh + o, none⟩) n c)
  | slIn {b o n c c' k : Nat} {r : RB} (h : ρ b = some r) (hc : c ≤ c') (hf : r.sh + o + c' * k ≤ r.csize) :
      VR ρ (.slice (some ⟨b, o, some (k + 1)⟩) n c) (.slice (some ⟨r.blk, r.sh + o, none⟩) n c')
  | slZ {a a' : Addr} : VR ρ (.slice (some a) 0 0) (.slice (some a') 0 0)
  | mapNil : VR ρ (.map none) (.map none)
  | map {b : Nat} {r : RB} (h : ρ b = some r) : VR ρ (.map (some b)) (.map (some r.blk))
  | func (fn : Fn) {f f' c c' : Array Value} (hf : f.size = f'.size) (hfs : ∀ i, i < f.size → VR ρ (f.getD i undef) (f'.getD i undef))
      (hc : c.size = c'.size) (hcs : ∀ i, i < c.size → VR ρ (c.getD i undef) (c'.getD i undef)) : VR ρ (.func fn f c) (.func fn f' c')
  | iface (t : TypeId) {v v' : Value} (h : VR ρ v v') : VR ρ (.iface t v) (.iface t v')
  | agg {c c' : Array Value} (hs : c.size = c'.size) (h : ∀ i, i < c.size → VR ρ (c.getD i undef) (c'.getD i undef)) : VR ρ (.agg c) (.agg c')
  | tuple {c c' : Array Value} (hs : c.size = c'.size) (h : ∀ i, i < c.size → VR ρ (c.getD i undef) (c'.getD i undef)) : VR ρ (.tuple c) (.tuple c')

def RenLe (ρ ρ' : Ren) : Prop := ∀ b r, ρ b = some r → ρ' b = some r

theorem RenLe.refl (ρ : Ren) : RenLe ρ ρ := fun _ _ h => h
theorem RenLe.trans {a b c : Ren} (h : RenLe a b) (k : RenLe b c) : RenLe a c := fun x r hx => k x r (h x r hx)

theorem VR.mono {ρ ρ' : Ren} (hρ : RenLe ρ ρ') {v v' : Value} (h : VR ρ v v') : VR ρ' v v' := by
  induction h with
  | unk v => exact .unk v
  | bool b => exact .bool b
  | int k n => exact .int k n
  | string s => exact .string s
  | nilFunc => exact .nilFunc
  | nilIface => exact .nilIface
  | ptrNil => exact .ptrNil
  | ptr h => exact .ptr (hρ _ _ h)
  | slNil => exact .slNil
  | slEx h => exact .slEx (hρ _ _ h)
  | slIn h hc hf => exact .slIn (hρ _ _ h) hc hf
  | slZ => exact .slZ
  | mapNil => exact .mapNil
  | map h => exact .map (hρ _ _ h)
  | func fn hf _ hc _ ih1 ih2 => exact .func fn hf ih1 hc ih2
  | iface t _ ih => exact .iface t ih
  | agg hs _ ih => exact .agg hs ih
  | tuple hs _ ih => exact .tuple hs ih

theorem VR.und {ρ : Ren} : VR ρ undef undef := .tuple rfl (fun i hi => absurd hi (by simp))

/-- May it stand in a cell? -/
def okCell : Value → Bool
  | .agg _ | .tuple _ | .chan _ => false
  | _ => true

theorem okCell_one {ρ : Ren} {v v' : Value} (h : VR ρ v v') (hv : okCell v = true) : v'.oneCell' = true ∧ okCell v' = true := by
  cases h <;> first | exact ⟨rfl, rfl⟩ | simp [okCell] at hv

/-- An abstract block: cells (may they be written?), or a map. -/
inductive AObj where
  | cells (cs : List Value) (rw : Bool)
  | map (es : List MapEntry) (clock : Nat)

def AObj.rw : AObj → Bool
  | .cells _ b => b
  | .map _ _ => true

structure AH where
  blk : Nat → Option AObj
  next : Nat

def upd {α : Type} (f : Nat → α) (b : Nat) (o : α) : Nat → α := fun x => if x = b then o else f x

@[simp] theorem upd_same {α : Type} (f : Nat → α) (b : Nat) (o : α) : upd f b o b = o := by simp [upd]
theorem upd_ne {α : Type} (f : Nat → α) {b x : Nat} (o : α) (h : x ≠ b) : upd f b o x = f x := by simp [upd, h]

def AH.alloc (H : AH) (o : AObj) : AH := { blk := upd H.blk H.next (some o), next := H.next + 1 }
def AH.set (H : AH) (b : Nat) (o : AObj) : AH := { H with blk := upd H.blk b (some o) }
def AH.kill (H : AH) (b : Nat) : AH := { H with blk := upd H.blk b none }

/-- The cells of an abstract block, in a block of the world. -/
def CellsAt (ρ : Ren) (cs : List Value) (rw : Bool) (B : Nat) (r : RB) (w : World) : Prop :=
  ∃ c elem fz, w.heap[r.blk]? = some (.cells c elem fz) ∧ c.size = r.csize ∧ r.sh + cs.length ≤ r.csize ∧
    (∀ i v, cs[i]? = some v → okCell v = true ∧ ∃ v', c[r.sh + i]? = some v' ∧ VR ρ v v') ∧ (rw = true → B ≤ r.blk ∧ fz = (0, 0))

def MapAt (ρ : Ren) (es : List MapEntry) (clock : Nat) (B : Nat) (r : RB) (w : World) : Prop :=
  ∃ es', w.heap[r.blk]? = some (.map es' clock) ∧ B ≤ r.blk ∧ es.length = es'.size ∧
    ∀ (i : Nat) (e : MapEntry), es[i]? = some e → ∃ e' : MapEntry, es'[i]? = some e' ∧ VR ρ e.key e'.key ∧ VR ρ e.val e'.val ∧ e.born = e'.born

def AObj.at (ρ : Ren) (B : Nat) (r : RB) (w : World) : AObj → Prop
  | .cells cs rw => CellsAt ρ cs rw B r w
  | .map es k => MapAt ρ es k B r w

structure Sim (B : Nat) (ρ : Ren) (H : AH) (w : World) : Prop where
  base : B ≤ w.heap.size
  get : ∀ b o, H.blk b = some o → ∃ r, ρ b = some r ∧ o.at ρ B r w
  inj : ∀ b b' o o' r r', b ≠ b' → H.blk b = some o → H.blk b' = some o' → o.rw = true → ρ b = some r → ρ b' = some r' → r.blk ≠ r'.blk
  fresh : ∀ b, H.next ≤ b → H.blk b = none ∧ ρ b = none

theorem CellsAt.mono {ρ ρ' : Ren} (hρ : RenLe ρ ρ') {cs : List Value} {rw : Bool} {B : Nat} {r : RB} {w w' : World} (hw : w'.heap[r.blk]? = w.heap[r.blk]?)
    (h : CellsAt ρ cs rw B r w) : CellsAt ρ' cs rw B r w' := by
  obtain ⟨c, elem, fz, h1, h2, h3, h4, h5⟩ := h
  exact ⟨c, elem, fz, hw.trans h1, h2, h3, fun i v hi => let ⟨a, v', b, d⟩ := h4 i v hi; ⟨a, v', b, d.mono hρ⟩, h5⟩

theorem MapAt.mono {ρ ρ' : Ren} (hρ : RenLe ρ ρ') {es : List MapEntry} {k : Nat} {B : Nat} {r : RB} {w w' : World} (hw : w'.heap[r.blk]? = w.heap[r.blk]?)
    (h : MapAt ρ es k B r w) : MapAt ρ' es k B r w' := by
  obtain ⟨c, h1, h2, h3, h4⟩ := h
  exact ⟨c, hw.trans h1, h2, h3, fun i e hi => let ⟨e', a, b, d, f⟩ := h4 i e hi; ⟨e', a, b.mono hρ, d.mono hρ, f⟩⟩

theorem AObj.at_mono {ρ ρ' : Ren} (hρ : RenLe ρ ρ') {o : AObj} {B : Nat} {r : RB} {w w' : World} (hw : w'.heap[r.blk]? = w.heap[r.blk]?)
    (h : o.at ρ B r w) : o.at ρ' B r w' := by
  cases o with
  | cells cs rw => exact CellsAt.mono hρ hw h
  | map es k => exact MapAt.mono hρ hw h

theorem AObj.at_lt {ρ : Ren} {o : AObj} {B : Nat} {r : RB} {w : World} (h : o.at ρ B r w) : r.blk < w.heap.size := by
  cases o with
  | cells cs rw => obtain ⟨c, elem, fz, h1, _⟩ := h; exact (Array.getElem?_eq_some_iff.1 h1).1
  | map es k => obtain ⟨c, h1, _⟩ := h; exact (Array.getElem?_eq_some_iff.1 h1).1

/-- What a draw does: nothing. -/
theorem Sim.drew {B : Nat} {ρ : Ren} {H : AH} {w : World} (h : Sim B ρ H w) : Sim B ρ H w.drew :=
  ⟨h.base, fun b o hb => let ⟨r, h1, h2⟩ := h.get b o hb; ⟨r, h1, AObj.at_mono (RenLe.refl ρ) rfl h2⟩, h.inj, h.fresh⟩

/-- A new block in the world, which is one in the abstract heap. -/
theorem Sim.alloc {B : Nat} {ρ : Ren} {H : AH} {w : World} (h : Sim B ρ H w) {o : AObj} {ob : Obj} {r : RB} (hr : r.blk = w.heap.size)
    (ho : ∀ ρ', RenLe ρ ρ' → o.at ρ' B r (w.alloc ob)) :
    Sim B (upd ρ H.next (some r)) (H.alloc o) (w.alloc ob) ∧ RenLe ρ (upd ρ H.next (some r)) ∧ upd ρ H.next (some r) H.next = some r ∧ Below B w (w.alloc ob) := by
  have hle : RenLe ρ (upd ρ H.next (some r)) := fun b x hb => by
    rw [upd_ne]; · exact hb
    · rintro rfl; rw [(h.fresh H.next (Nat.le_refl _)).2] at hb; cases hb
  refine ⟨⟨by have := h.base; simp; omega, ?_, ?_, ?_⟩, hle, upd_same _ _ _, (Below.refl B w).alloc h.base ob⟩
  · intro b x hb
    by_cases hbn : b = H.next
    · subst hbn
      simp only [AH.alloc, upd_same, Option.some.injEq] at hb
      subst hb
      exact ⟨r, upd_same _ _ _, ho _ hle⟩
    · simp only [AH.alloc, upd_ne _ _ hbn] at hb
      obtain ⟨r', h1, h2⟩ := h.get b x hb
      exact ⟨r', hle _ _ h1, AObj.at_mono hle (Below.heap_alloc _ _ _ (AObj.at_lt h2)) h2⟩
  · intro b b' x x' r1 r2 hne hb hb' hrw h1 h2
    by_cases hbn : b = H.next
    · subst hbn
      rw [upd_same] at h1; cases h1
      have hbn' : b' ≠ H.next := fun e => hne e.symm
      simp only [AH.alloc, upd_ne _ _ hbn'] at hb'
      rw [upd_ne _ _ hbn'] at h2
      obtain ⟨r', h3, h4⟩ := h.get b' x' hb'
      rw [h3] at h2; cases h2
      have := (AObj.at_lt h4)
      omega
    · simp only [AH.alloc, upd_ne _ _ hbn] at hb
      rw [upd_ne _ _ hbn] at h1
      by_cases hbn' : b' = H.next
      · subst hbn'
        rw [upd_same] at h2; cases h2
        obtain ⟨r', h3, h4⟩ := h.get b x hb
        rw [h3] at h1; cases h1
        have := (AObj.at_lt h4)
        omega
      · simp only [AH.alloc, upd_ne _ _ hbn'] at hb'
        rw [upd_ne _ _ hbn'] at h2
        exact h.inj b b' x x' r1 r2 hne hb hb' hrw h1 h2
  · intro b hb
    simp only [AH.alloc] at hb ⊢
    have hne : b ≠ H.next := by omega
    rw [upd_ne _ _ hne, upd_ne _ _ hne]
    exact h.fresh b (by omega)

/-- The block b is another one: in the world, and in the abstract heap. -/
theorem Sim.set {B : Nat} {ρ : Ren} {H : AH} {w w' : World} (h : Sim B ρ H w) {b : Nat} {o o' : AObj} {r : RB} (hb : H.blk b = some o) (hrw : o.rw = true) (hr : ρ b = some r)
    (hsz : w'.heap.size = w.heap.size) (hw : ∀ k, k ≠ r.blk → w'.heap[k]? = w.heap[k]?) (ho : o'.at ρ B r w') : Sim B ρ (H.set b o') w' := by
  refine ⟨by rw [hsz]; exact h.base, ?_, ?_, ?_⟩
  · intro b1 x hx
    by_cases hne : b1 = b
    · subst hne
      simp only [AH.set, upd_same, Option.some.injEq] at hx
      subst hx
      exact ⟨r, hr, ho⟩
    · simp only [AH.set, upd_ne _ _ hne] at hx
      obtain ⟨r1, h1, h2⟩ := h.get b1 x hx
      exact ⟨r1, h1, AObj.at_mono (RenLe.refl ρ) (hw _ (fun e => h.inj b b1 o x r r1 (Ne.symm hne) hb hx hrw hr h1 e.symm)) h2⟩
  · intro b1 b2 x x' r1 r2 hne hx hx' hrw' h1 h2
    by_cases e1 : b1 = b
    · subst e1
      rw [hr] at h1; cases h1
      have e2 : b2 ≠ b1 := Ne.symm hne
      simp only [AH.set, upd_ne _ _ e2] at hx'
      exact h.inj b1 b2 o x' r r2 hne hb hx' hrw hr h2
    · simp only [AH.set, upd_ne _ _ e1] at hx
      by_cases e2 : b2 = b
      · subst e2
        rw [hr] at h2; cases h2
        exact h.inj b1 b2 x o r1 r hne hx hb hrw' h1 hr
      · simp only [AH.set, upd_ne _ _ e2] at hx'
        exact h.inj b1 b2 x x' r1 r2 hne hx hx' hrw' h1 h2
  · intro b1 hb1
    have hne : b1 ≠ b := by rintro rfl; have := (h.fresh b1 hb1).1; rw [hb] at this; cases this
    simp only [AH.set, upd_ne _ _ hne]
    exact h.fresh b1 hb1

/-- What is dead may be anything, in the world. -/
theorem Sim.kill {B : Nat} {ρ : Ren} {H : AH} {w w' : World} (h : Sim B ρ H w) {b : Nat} {o : AObj} {r : RB} (hb : H.blk b = some o) (hrw : o.rw = true) (hr : ρ b = some r)
    (hsz : w'.heap.size = w.heap.size) (hw : ∀ k, k ≠ r.blk → w'.heap[k]? = w.heap[k]?) : Sim B ρ (H.kill b) w' := by
  refine ⟨by rw [hsz]; exact h.base, ?_, ?_, ?_⟩
  · intro b1 x hx
    by_cases hne : b1 = b
    · subst hne; simp [AH.kill] at hx
    · simp only [AH.kill, upd_ne _ _ hne] at hx
      obtain ⟨r1, h1, h2⟩ := h.get b1 x hx
      exact ⟨r1, h1, AObj.at_mono (RenLe.refl ρ) (hw _ (fun e => h.inj b b1 o x r r1 (Ne.symm hne) hb hx hrw hr h1 e.symm)) h2⟩
  · intro b1 b2 x x' r1 r2 hne hx hx' hrw' h1 h2
    have e1 : b1 ≠ b := by rintro rfl; simp [AH.kill] at hx
    have e2 : b2 ≠ b := by rintro rfl; simp [AH.kill] at hx'
    simp only [AH.kill, upd_ne _ _ e1] at hx
    simp only [AH.kill, upd_ne _ _ e2] at hx'
    exact h.inj b1 b2 x x' r1 r2 hne hx hx' hrw' h1 h2
  · intro b1 hb1
    have hne : b1 ≠ b := by rintro rfl; have := (h.fresh b1 hb1).1; rw [hb] at this; cases this
    simp only [AH.kill, upd_ne _ _ hne]
    exact h.fresh b1 hb1

/-- A new name for the place of one that is killed (an append in place), or for a place beyond. -/
theorem Sim.rename {B : Nat} {ρ : Ren} {H : AH} {w w' : World} (h : Sim B ρ H w) {b : Nat} {o o' : AObj} {r r' : RB} (hb : H.blk b = some o) (hrw : o.rw = true) (hr : ρ b = some r)
    (hsz : w'.heap.size = w.heap.size) (hw : ∀ k, k ≠ r.blk → w'.heap[k]? = w.heap[k]?) (hr' : r'.blk = r.blk) (ho : ∀ ρ', RenLe ρ ρ' → o'.at ρ' B r' w') :
    Sim B (upd ρ H.next (some r')) ((H.kill b).alloc o') w' ∧ RenLe ρ (upd ρ H.next (some r')) := by
  have hk := h.kill hb hrw hr hsz hw
  have hle : RenLe ρ (upd ρ H.next (some r')) := fun b x hb => by
    rw [upd_ne]; · exact hb
    · rintro rfl; rw [(h.fresh H.next (Nat.le_refl _)).2] at hb; cases hb
  have hnb : b ≠ H.next := by rintro rfl; have := (h.fresh H.next (Nat.le_refl _)).1; rw [hb] at this; cases this
  have hkn : (H.kill b).next = H.next := rfl
  refine ⟨⟨hk.base, ?_, ?_, ?_⟩, hle⟩
  · intro b1 x hx
    by_cases hne : b1 = H.next
    · subst hne
      simp only [AH.alloc, hkn, upd_same, Option.some.injEq] at hx
      subst hx
      exact ⟨r', upd_same _ _ _, ho _ hle⟩
    · simp only [AH.alloc, hkn, upd_ne _ _ hne] at hx
      obtain ⟨r1, h1, h2⟩ := hk.get b1 x hx
      exact ⟨r1, hle _ _ h1, AObj.at_mono hle rfl h2⟩
  · intro b1 b2 x x' r1 r2 hne hx hx' hrw' h1 h2
    by_cases e1 : b1 = H.next
    · subst e1
      rw [upd_same] at h1; cases h1
      have e2 : b2 ≠ H.next := Ne.symm hne
      simp only [AH.alloc, hkn, upd_ne _ _ e2] at hx'
      rw [upd_ne _ _ e2] at h2
      have e3 : b2 ≠ b := by rintro rfl; simp [AH.kill] at hx'
      simp only [AH.kill, upd_ne _ _ e3] at hx'
      rw [hr']
      exact h.inj b b2 o x' r r2 (Ne.symm e3) hb hx' hrw hr h2
    · simp only [AH.alloc, hkn, upd_ne _ _ e1] at hx
      rw [upd_ne _ _ e1] at h1
      have e3 : b1 ≠ b := by rintro rfl; simp [AH.kill] at hx
      by_cases e2 : b2 = H.next
      · subst e2
        rw [upd_same] at h2; cases h2
        simp only [AH.kill, upd_ne _ _ e3] at hx
        rw [hr']
        exact h.inj b1 b x o r1 r e3 hx hb hrw' h1 hr
      · simp only [AH.alloc, hkn, upd_ne _ _ e2] at hx'
        rw [upd_ne _ _ e2] at h2
        exact hk.inj b1 b2 x x' r1 r2 hne hx hx' hrw' h1 h2
  · intro b1 hb1
    simp only [AH.alloc, hkn] at hb1 ⊢
    have hne : b1 ≠ H.next := by omega
    rw [upd_ne _ _ hne, upd_ne _ _ hne]
    exact hk.fresh b1 (by rw [hkn]; omega)

end Go.Proofs.YtmknkpcdfkpobaaA
