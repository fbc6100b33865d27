/- The abstract heap, the relation between it and the model's world, and how single steps of memory keep it. -/
import Derived.WalkKit
import Derived.Laws.CopyRow
import Derived.Laws.CopyOwn
import Derived.Orders
namespace Go.Proofs.YtmknkpcdfkpobaaA
open Go.RowKit

/-- Where an abstract block lies: the block, from which cell on, and how many cells that block has. -/
structure RB where
  blk : Nat
  sh : Nat
  csize : Nat

/-- The names of blocks; and of the cells that no one will write any more, what they hold. -/
structure Ren where
  f : Nat → Option RB
  z : Nat → Nat → Value → Prop

instance : CoeFun Ren (fun _ => Nat → Option RB) := ⟨Ren.f⟩

def upd {α : Type} (f : Nat → α) (b : Nat) (o : α) : Nat → α := fun x => if x = b then o else f x

@[simp] theorem upd_same {α : Type} (f : Nat → α) (b : Nat) (o : α) : upd f b o b = o := by simp [upd]
theorem upd_ne {α : Type} (f : Nat → α) {b x : Nat} (o : α) (h : x ≠ b) : upd f b o x = f x := by simp [upd, h]

def Ren.upd (ρ : Ren) (b : Nat) (r : RB) : Ren := ⟨YtmknkpcdfkpobaaA.upd ρ.f b (some r), ρ.z⟩
theorem Ren.upd_same (ρ : Ren) (b : Nat) (r : RB) : ρ.upd b r b = some r := YtmknkpcdfkpobaaA.upd_same _ _ _
theorem Ren.upd_ne (ρ : Ren) {b x : Nat} (r : RB) (h : x ≠ b) : ρ.upd b r x = ρ x := YtmknkpcdfkpobaaA.upd_ne _ _ h

/-- A function value of this kind stands for a slice, or a pointer, to cells that no one will write any more: it bears what they hold. -/
def fnOk : Fn → Bool
  | .method _ | .methodOf _ _ => false
  | _ => true

/-- A value of which nothing is known. -/
abbrev unk : Value := .chan none

/-- An abstract value tells of a value. A slice's place bears some 0. -/
inductive VR (ρ : Ren) : Value → Value → Prop
  | unk (v : Value) : VR ρ (.chan none) v
  | bool (b : Bool) : VR ρ (.bool b) (.bool b)
  | int (k : IntKind) (n : Int) : VR ρ (.int k n) (.int k n)
  | string (s : ByteArray) : VR ρ (.string s) (.string s)
  | nilFunc : VR ρ .nilFunc .nilFunc
  | nilIface : VR ρ .nilIface .nilIface
  | ptrNil : VR ρ (.pointer none) (.pointer none)
  | ptr {b o : Nat} {r : RB} (h : ρ b = some r) : VR ρ (.pointer (some ⟨b, o, none⟩)) (.pointer (some ⟨r.blk, r.sh + o, none⟩))
  | slNil : VR ρ (.slice none 0 0) (.slice none 0 0)
  | slEx {b o n c : Nat} {r : RB} (h : ρ b = some r) : VR ρ (.slice (some ⟨b, o, some 0⟩) n c) (.slice (some ⟨r.blk, r.sh + o, none⟩) n c)
  | slZ {a a' : Addr} : VR ρ (.slice (some a) 0 0) (.slice (some a') 0 0)
  | mapNil : VR ρ (.map none) (.map none)
  | map {b : Nat} {r : RB} (h : ρ b = some r) : VR ρ (.map (some b)) (.map (some r.blk))
  | func (fn : Fn) {f f' c c' : Array Value} (hm : fnOk fn = true) (hf : f.size = f'.size) (hfs : ∀ i, i < f.size → VR ρ (f.getD i undef) (f'.getD i undef))
      (hc : c.size = c'.size) (hcs : ∀ i, i < c.size → VR ρ (c.getD i undef) (c'.getD i undef)) : VR ρ (.func fn f c) (.func fn f' c')
  | iface (t : TypeId) {v v' : Value} (h : VR ρ v v') : VR ρ (.iface t v) (.iface t v')
  | agg {c c' : Array Value} (hs : c.size = c'.size) (h : ∀ i, i < c.size → VR ρ (c.getD i undef) (c'.getD i undef)) : VR ρ (.agg c) (.agg c')
  | tuple {c c' : Array Value} (hs : c.size = c'.size) (h : ∀ i, i < c.size → VR ρ (c.getD i undef) (c'.getD i undef)) : VR ρ (.tuple c) (.tuple c')
  | frzS {nm : String} {cs c0 : Array Value} {n c' b o : Nat} (hc : n ≤ c') (h : ∀ i v, cs.toList[i]? = some v → ρ.z b (o + i) v) : VR ρ (.func (.methodOf n nm) cs c0) (.slice (some ⟨b, o, none⟩) n c')
  | frzN {nm : String} {cs c0 : Array Value} (h : cs.toList = []) : VR ρ (.func (.methodOf 0 nm) cs c0) (.slice none 0 0)
  | frzZ {nm : String} {cs c0 : Array Value} {a' : Addr} (h : cs.toList = []) : VR ρ (.func (.methodOf 0 nm) cs c0) (.slice (some a') 0 0)
  | frzP {nm : String} {cs c0 : Array Value} {b o : Nat} (h : ∀ i v, cs.toList[i]? = some v → ρ.z b (o + i) v) : VR ρ (.func (.method nm) cs c0) (.pointer (some ⟨b, o, none⟩))

structure RenLe (ρ ρ' : Ren) : Prop where
  f : ∀ b r, ρ b = some r → ρ' b = some r
  z : ∀ b o v, ρ.z b o v → ρ'.z b o v

theorem RenLe.refl (ρ : Ren) : RenLe ρ ρ := ⟨fun _ _ h => h, fun _ _ _ h => h⟩
theorem RenLe.trans {a b c : Ren} (h : RenLe a b) (k : RenLe b c) : RenLe a c := ⟨fun x r hx => k.f x r (h.f x r hx), fun x o v hx => k.z x o v (h.z x o v hx)⟩

/-- Without the names. -/
def Ren.pure (ρ : Ren) : Ren := ⟨fun _ => none, ρ.z⟩
theorem Ren.pure_le (ρ : Ren) : RenLe ρ.pure ρ := ⟨fun _ _ h => (by cases h), fun _ _ _ h => h⟩

theorem VR.mono {ρ ρ' : Ren} (hρ : RenLe ρ ρ') {v v' : Value} (h : VR ρ v v') : VR ρ' v v' := by
  induction h with
  | unk v => exact .unk v
  | bool b => exact .bool b
  | int k n => exact .int k n
  | string s => exact .string s
  | nilFunc => exact .nilFunc
  | nilIface => exact .nilIface
  | ptrNil => exact .ptrNil
  | ptr h => exact .ptr (hρ.f _ _ h)
  | slNil => exact .slNil
  | slEx h => exact .slEx (hρ.f _ _ h)
  | slZ => exact .slZ
  | mapNil => exact .mapNil
  | map h => exact .map (hρ.f _ _ h)
  | func fn hm hf _ hc _ ih1 ih2 => exact .func fn hm hf ih1 hc ih2
  | iface t _ ih => exact .iface t ih
  | agg hs _ ih => exact .agg hs ih
  | tuple hs _ ih => exact .tuple hs ih
  | frzS hc h => exact .frzS hc fun i v hi => hρ.z _ _ _ (h i v hi)
  | frzN h => exact .frzN h
  | frzZ h => exact .frzZ h
  | frzP h => exact .frzP fun i v hi => hρ.z _ _ _ (h i v hi)

theorem VR.und {ρ : Ren} : VR ρ undef undef := .tuple rfl (fun i hi => absurd hi (by simp))

/-- May it stand in a cell? -/
def okCell : Value → Bool
  | .agg _ | .tuple _ | .chan _ => false
  | _ => true

theorem okCell_one {ρ : Ren} {v v' : Value} (h : VR ρ v v') (hv : okCell v = true) : v'.oneCell' = true ∧ okCell v' = true := by
  cases h <;> first | exact ⟨rfl, rfl⟩ | simp [okCell] at hv

/-- An abstract block: cells (may they be written?), or a map. -/
inductive AObj where
  | cells (cs : List Value) (rw : Bool)
  | map (es : List MapEntry) (clock : Nat)

def AObj.rw : AObj → Bool
  | .cells _ b => b
  | .map _ _ => true

structure AH where
  blk : Nat → Option AObj
  next : Nat

def AH.alloc (H : AH) (o : AObj) : AH := { blk := upd H.blk H.next (some o), next := H.next + 1 }
def AH.set (H : AH) (b : Nat) (o : AObj) : AH := { H with blk := upd H.blk b (some o) }
def AH.kill (H : AH) (b : Nat) : AH := { H with blk := upd H.blk b none }

/-- The cells of an abstract block, in a block of the world. -/
def CellsAt (ρ : Ren) (cs : List Value) (rw : Bool) (B : Nat) (r : RB) (w : World) : Prop :=
  ∃ c elem fz, w.heap[r.blk]? = some (.cells c elem fz) ∧ c.size = r.csize ∧ r.sh + cs.length ≤ r.csize ∧
    (∀ i v, cs[i]? = some v → okCell v = true ∧ ∃ v', c[r.sh + i]? = some v' ∧ VR ρ v v') ∧ (rw = true → B ≤ r.blk ∧ fz = (0, 0))

def MapAt (ρ : Ren) (es : List MapEntry) (clock : Nat) (B : Nat) (r : RB) (w : World) : Prop :=
  ∃ es', w.heap[r.blk]? = some (.map es' clock) ∧ B ≤ r.blk ∧ es.length = es'.size ∧
    ∀ (i : Nat) (e : MapEntry), es[i]? = some e → ∃ e' : MapEntry, es'[i]? = some e' ∧ VR ρ e.key e'.key ∧ VR ρ e.val e'.val ∧ e.born = e'.born

def AObj.at (ρ : Ren) (B : Nat) (r : RB) (w : World) : AObj → Prop
  | .cells cs rw => CellsAt ρ cs rw B r w
  | .map es k => MapAt ρ es k B r w

structure Sim (B : Nat) (ρ : Ren) (H : AH) (w : World) : Prop where
  base : B ≤ w.heap.size
  get : ∀ b o, H.blk b = some o → ∃ r, ρ b = some r ∧ o.at ρ B r w
  inj : ∀ b b' o o' r r', b ≠ b' → H.blk b = some o → H.blk b' = some o' → o.rw = true → ρ b = some r → ρ b' = some r' → r.blk ≠ r'.blk
  fresh : ∀ b, H.next ≤ b → H.blk b = none ∧ ρ b = none
  frz : ∀ b o v, ρ.z b o v → okCell v = true ∧ ∃ c elem fz v', w.heap[b]? = some (.cells c elem fz) ∧ c[o]? = some v' ∧ VR ρ.pure v v'
  own : ∀ b ob r, H.blk b = some ob → ob.rw = true → ρ b = some r → ∀ o v, ¬ ρ.z r.blk o v

theorem Sim.frz_lt {B : Nat} {ρ : Ren} {H : AH} {w : World} (h : Sim B ρ H w) {b o : Nat} {v : Value} (hz : ρ.z b o v) : b < w.heap.size := by
  obtain ⟨_, c, elem, fz, v', h1, _⟩ := h.frz b o v hz
  exact (Array.getElem?_eq_some_iff.1 h1).1

/-- What no one will write stays, where other blocks are as they were. -/
theorem Sim.frz_keep {B : Nat} {ρ : Ren} {H : AH} {w w' : World} (h : Sim B ρ H w) (hw : ∀ b o v, ρ.z b o v → w'.heap[b]? = w.heap[b]?) :
    ∀ b o v, ρ.z b o v → okCell v = true ∧ ∃ c elem fz v', w'.heap[b]? = some (.cells c elem fz) ∧ c[o]? = some v' ∧ VR ρ.pure v v' := by
  intro b o v hz
  obtain ⟨h0, c, elem, fz, v', h1, h2⟩ := h.frz b o v hz
  exact ⟨h0, c, elem, fz, v', (hw b o v hz).trans h1, h2⟩

theorem CellsAt.mono {ρ ρ' : Ren} (hρ : RenLe ρ ρ') {cs : List Value} {rw : Bool} {B : Nat} {r : RB} {w w' : World} (hw : w'.heap[r.blk]? = w.heap[r.blk]?)
    (h : CellsAt ρ cs rw B r w) : CellsAt ρ' cs rw B r w' := by
  obtain ⟨c, elem, fz, h1, h2, h3, h4, h5⟩ := h
  exact ⟨c, elem, fz, hw.trans h1, h2, h3, fun i v hi => let ⟨a, v', b, d⟩ := h4 i v hi; ⟨a, v', b, d.mono hρ⟩, h5⟩

theorem MapAt.mono {ρ ρ' : Ren} (hρ : RenLe ρ ρ') {es : List MapEntry} {k : Nat} {B : Nat} {r : RB} {w w' : World} (hw : w'.heap[r.blk]? = w.heap[r.blk]?)
    (h : MapAt ρ es k B r w) : MapAt ρ' es k B r w' := by
  obtain ⟨c, h1, h2, h3, h4⟩ := h
  exact ⟨c, hw.trans h1, h2, h3, fun i e hi => let ⟨e', a, b, d, f⟩ := h4 i e hi; ⟨e', a, b.mono hρ, d.mono hρ, f⟩⟩

theorem AObj.at_mono {ρ ρ' : Ren} (hρ : RenLe ρ ρ') {o : AObj} {B : Nat} {r : RB} {w w' : World} (hw : w'.heap[r.blk]? = w.heap[r.blk]?)
    (h : o.at ρ B r w) : o.at ρ' B r w' := by
  cases o with
  | cells cs rw => exact CellsAt.mono hρ hw h
  | map es k => exact MapAt.mono hρ hw h

theorem AObj.at_lt {ρ : Ren} {o : AObj} {B : Nat} {r : RB} {w : World} (h : o.at ρ B r w) : r.blk < w.heap.size := by
  cases o with
  | cells cs rw => obtain ⟨c, elem, fz, h1, _⟩ := h; exact (Array.getElem?_eq_some_iff.1 h1).1
  | map es k => obtain ⟨c, h1, _⟩ := h; exact (Array.getElem?_eq_some_iff.1 h1).1

/-- What a draw does: nothing. -/
theorem Sim.drew {B : Nat} {ρ : Ren} {H : AH} {w : World} (h : Sim B ρ H w) : Sim B ρ H w.drew :=
  ⟨h.base, fun b o hb => let ⟨r, h1, h2⟩ := h.get b o hb; ⟨r, h1, AObj.at_mono (RenLe.refl ρ) rfl h2⟩, h.inj, h.fresh, h.frz_keep (fun _ _ _ _ => rfl), h.own⟩

/-- A new block in the world, which is one in the abstract heap. -/
theorem Sim.alloc {B : Nat} {ρ : Ren} {H : AH} {w : World} (h : Sim B ρ H w) {o : AObj} {ob : Obj} {r : RB} (hr : r.blk = w.heap.size)
    (ho : ∀ ρ', RenLe ρ ρ' → o.at ρ' B r (w.alloc ob)) :
    Sim B (ρ.upd H.next r) (H.alloc o) (w.alloc ob) ∧ RenLe ρ (ρ.upd H.next r) ∧ ρ.upd H.next r H.next = some r ∧ Below B w (w.alloc ob) := by
  have hle : RenLe ρ (ρ.upd H.next r) := ⟨fun b x hb => (by
    rw [Ren.upd_ne]; · exact hb
    · rintro rfl; rw [(h.fresh H.next (Nat.le_refl _)).2] at hb; cases hb), fun _ _ _ h => h⟩
  refine ⟨⟨by have := h.base; simp; omega, ?_, ?_, ?_, h.frz_keep (fun b o v hz => Below.heap_alloc _ _ _ (h.frz_lt hz)), ?_⟩, hle, Ren.upd_same _ _ _, (Below.refl B w).alloc h.base ob⟩
  · intro b x hb
    by_cases hbn : b = H.next
    · subst hbn
      simp only [AH.alloc, upd_same, Option.some.injEq] at hb
      subst hb
      exact ⟨r, Ren.upd_same _ _ _, ho _ hle⟩
    · simp only [AH.alloc, upd_ne _ _ hbn] at hb
      obtain ⟨r', h1, h2⟩ := h.get b x hb
      exact ⟨r', hle.f _ _ h1, AObj.at_mono hle (Below.heap_alloc _ _ _ (AObj.at_lt h2)) h2⟩
  · intro b b' x x' r1 r2 hne hb hb' hrw h1 h2
    by_cases hbn : b = H.next
    · subst hbn
      rw [Ren.upd_same] at h1; cases h1
      have hbn' : b' ≠ H.next := fun e => hne e.symm
      simp only [AH.alloc, upd_ne _ _ hbn'] at hb'
      rw [Ren.upd_ne _ _ hbn'] at h2
      obtain ⟨r', h3, h4⟩ := h.get b' x' hb'
      rw [h3] at h2; cases h2
      have := (AObj.at_lt h4)
      omega
    · simp only [AH.alloc, upd_ne _ _ hbn] at hb
      rw [Ren.upd_ne _ _ hbn] at h1
      by_cases hbn' : b' = H.next
      · subst hbn'
        rw [Ren.upd_same] at h2; cases h2
        obtain ⟨r', h3, h4⟩ := h.get b x hb
        rw [h3] at h1; cases h1
        have := (AObj.at_lt h4)
        omega
      · simp only [AH.alloc, upd_ne _ _ hbn'] at hb'
        rw [Ren.upd_ne _ _ hbn'] at h2
        exact h.inj b b' x x' r1 r2 hne hb hb' hrw h1 h2
  · intro b hb
    simp only [AH.alloc] at hb ⊢
    have hne : b ≠ H.next := by omega
    rw [upd_ne _ _ hne, Ren.upd_ne _ _ hne]
    exact h.fresh b (by omega)
  · intro b x r1 hb hrw h1 k
    by_cases hbn : b = H.next
    · subst hbn
      rw [Ren.upd_same] at h1; cases h1
      intro v hz
      have := h.frz_lt (show ρ.z r.blk k v from hz); omega
    · simp only [AH.alloc, upd_ne _ _ hbn] at hb
      rw [Ren.upd_ne _ _ hbn] at h1
      exact h.own b x r1 hb hrw h1 k

/-- The block b is another one: in the world, and in the abstract heap. -/
theorem Sim.set {B : Nat} {ρ : Ren} {H : AH} {w w' : World} (h : Sim B ρ H w) {b : Nat} {o o' : AObj} {r : RB} (hb : H.blk b = some o) (hrw : o.rw = true) (hr : ρ b = some r)
    (hsz : w'.heap.size = w.heap.size) (hw : ∀ k, k ≠ r.blk → w'.heap[k]? = w.heap[k]?) (ho : o'.at ρ B r w') : Sim B ρ (H.set b o') w' := by
  have hnz := h.own b o r hb hrw hr
  refine ⟨by rw [hsz]; exact h.base, ?_, ?_, ?_, h.frz_keep fun k j v hz => hw k fun e => (by rw [e] at hz; exact hnz j v hz), ?_⟩
  · intro b1 x hx
    by_cases hne : b1 = b
    · subst hne
      simp only [AH.set, upd_same, Option.some.injEq] at hx
      subst hx
      exact ⟨r, hr, ho⟩
    · simp only [AH.set, upd_ne _ _ hne] at hx
      obtain ⟨r1, h1, h2⟩ := h.get b1 x hx
      exact ⟨r1, h1, AObj.at_mono (RenLe.refl ρ) (hw _ (fun e => h.inj b b1 o x r r1 (Ne.symm hne) hb hx hrw hr h1 e.symm)) h2⟩
  · intro b1 b2 x x' r1 r2 hne hx hx' hrw' h1 h2
    by_cases e1 : b1 = b
    · subst e1
      rw [hr] at h1; cases h1
      have e2 : b2 ≠ b1 := Ne.symm hne
      simp only [AH.set, upd_ne _ _ e2] at hx'
      exact h.inj b1 b2 o x' r r2 hne hb hx' hrw hr h2
    · simp only [AH.set, upd_ne _ _ e1] at hx
      by_cases e2 : b2 = b
      · subst e2
        rw [hr] at h2; cases h2
        exact h.inj b1 b2 x o r1 r hne hx hb hrw' h1 hr
      · simp only [AH.set, upd_ne _ _ e2] at hx'
        exact h.inj b1 b2 x x' r1 r2 hne hx hx' hrw' h1 h2
  · intro b1 hb1
    have hne : b1 ≠ b := by rintro rfl; have := (h.fresh b1 hb1).1; rw [hb] at this; cases this
    simp only [AH.set, upd_ne _ _ hne]
    exact h.fresh b1 hb1
  · intro b1 x r1 hx hrw' h1 k
    by_cases e1 : b1 = b
    · subst e1
      rw [hr] at h1; cases h1
      exact hnz k
    · simp only [AH.set, upd_ne _ _ e1] at hx
      exact h.own b1 x r1 hx hrw' h1 k

/-- What is dead may be anything, in the world. -/
theorem Sim.kill {B : Nat} {ρ : Ren} {H : AH} {w w' : World} (h : Sim B ρ H w) {b : Nat} {o : AObj} {r : RB} (hb : H.blk b = some o) (hrw : o.rw = true) (hr : ρ b = some r)
    (hsz : w'.heap.size = w.heap.size) (hw : ∀ k, k ≠ r.blk → w'.heap[k]? = w.heap[k]?) : Sim B ρ (H.kill b) w' := by
  have hnz := h.own b o r hb hrw hr
  refine ⟨by rw [hsz]; exact h.base, ?_, ?_, ?_, h.frz_keep fun k j v hz => hw k fun e => (by rw [e] at hz; exact hnz j v hz), ?_⟩
  · intro b1 x hx
    by_cases hne : b1 = b
    · subst hne; simp [AH.kill] at hx
    · simp only [AH.kill, upd_ne _ _ hne] at hx
      obtain ⟨r1, h1, h2⟩ := h.get b1 x hx
      exact ⟨r1, h1, AObj.at_mono (RenLe.refl ρ) (hw _ (fun e => h.inj b b1 o x r r1 (Ne.symm hne) hb hx hrw hr h1 e.symm)) h2⟩
  · intro b1 b2 x x' r1 r2 hne hx hx' hrw' h1 h2
    have e1 : b1 ≠ b := by rintro rfl; simp [AH.kill] at hx
    have e2 : b2 ≠ b := by rintro rfl; simp [AH.kill] at hx'
    simp only [AH.kill, upd_ne _ _ e1] at hx
    simp only [AH.kill, upd_ne _ _ e2] at hx'
    exact h.inj b1 b2 x x' r1 r2 hne hx hx' hrw' h1 h2
  · intro b1 hb1
    have hne : b1 ≠ b := by rintro rfl; have := (h.fresh b1 hb1).1; rw [hb] at this; cases this
    simp only [AH.kill, upd_ne _ _ hne]
    exact h.fresh b1 hb1
  · intro b1 x r1 hx hrw' h1 k
    have e1 : b1 ≠ b := by rintro rfl; simp [AH.kill] at hx
    simp only [AH.kill, upd_ne _ _ e1] at hx
    exact h.own b1 x r1 hx hrw' h1 k

/-- A new name for the place of one that is killed (an append in place), or for a place beyond. -/
theorem Sim.rename {B : Nat} {ρ : Ren} {H : AH} {w w' : World} (h : Sim B ρ H w) {b : Nat} {o o' : AObj} {r r' : RB} (hb : H.blk b = some o) (hrw : o.rw = true) (hr : ρ b = some r)
    (hsz : w'.heap.size = w.heap.size) (hw : ∀ k, k ≠ r.blk → w'.heap[k]? = w.heap[k]?) (hr' : r'.blk = r.blk) (ho : ∀ ρ', RenLe ρ ρ' → o'.at ρ' B r' w') :
    Sim B (ρ.upd H.next r') ((H.kill b).alloc o') w' ∧ RenLe ρ (ρ.upd H.next r') := by
  have hk := h.kill hb hrw hr hsz hw
  have hle : RenLe ρ (ρ.upd H.next r') := ⟨fun b x hb => (by
    rw [Ren.upd_ne]; · exact hb
    · rintro rfl; rw [(h.fresh H.next (Nat.le_refl _)).2] at hb; cases hb), fun _ _ _ h => h⟩
  have hnb : b ≠ H.next := by rintro rfl; have := (h.fresh H.next (Nat.le_refl _)).1; rw [hb] at this; cases this
  have hkn : (H.kill b).next = H.next := rfl
  refine ⟨⟨hk.base, ?_, ?_, ?_, hk.frz, ?_⟩, hle⟩
  · intro b1 x hx
    by_cases hne : b1 = H.next
    · subst hne
      simp only [AH.alloc, hkn, upd_same, Option.some.injEq] at hx
      subst hx
      exact ⟨r', Ren.upd_same _ _ _, ho _ hle⟩
    · simp only [AH.alloc, hkn, upd_ne _ _ hne] at hx
      obtain ⟨r1, h1, h2⟩ := hk.get b1 x hx
      exact ⟨r1, hle.f _ _ h1, AObj.at_mono hle rfl h2⟩
  · intro b1 b2 x x' r1 r2 hne hx hx' hrw' h1 h2
    by_cases e1 : b1 = H.next
    · subst e1
      rw [Ren.upd_same] at h1; cases h1
      have e2 : b2 ≠ H.next := Ne.symm hne
      simp only [AH.alloc, hkn, upd_ne _ _ e2] at hx'
      rw [Ren.upd_ne _ _ e2] at h2
      have e3 : b2 ≠ b := by rintro rfl; simp [AH.kill] at hx'
      simp only [AH.kill, upd_ne _ _ e3] at hx'
      rw [hr']
      exact h.inj b b2 o x' r r2 (Ne.symm e3) hb hx' hrw hr h2
    · simp only [AH.alloc, hkn, upd_ne _ _ e1] at hx
      rw [Ren.upd_ne _ _ e1] at h1
      have e3 : b1 ≠ b := by rintro rfl; simp [AH.kill] at hx
      by_cases e2 : b2 = H.next
      · subst e2
        rw [Ren.upd_same] at h2; cases h2
        simp only [AH.kill, upd_ne _ _ e3] at hx
        rw [hr']
        exact h.inj b1 b x o r1 r e3 hx hb hrw' h1 hr
      · simp only [AH.alloc, hkn, upd_ne _ _ e2] at hx'
        rw [Ren.upd_ne _ _ e2] at h2
        exact hk.inj b1 b2 x x' r1 r2 hne hx hx' hrw' h1 h2
  · intro b1 hb1
    simp only [AH.alloc, hkn] at hb1 ⊢
    have hne : b1 ≠ H.next := by omega
    rw [upd_ne _ _ hne, Ren.upd_ne _ _ hne]
    exact hk.fresh b1 (by rw [hkn]; omega)
  · intro b1 x r1 hx hrw' h1 k
    by_cases e1 : b1 = H.next
    · subst e1
      rw [Ren.upd_same] at h1; cases h1
      rw [hr']
      exact h.own b o r hb hrw hr k
    · simp only [AH.alloc, hkn, upd_ne _ _ e1] at hx
      rw [Ren.upd_ne _ _ e1] at h1
      exact hk.own b1 x r1 hx hrw' h1 k

/-! ### What no one will write any more -/

/-- A slice, of which is known what it holds; a pointer, of which is known what stands from there on. -/
def FS (cs : List Value) (n : Nat) : Value := .func (.methodOf n "") cs.toArray #[]
def FP (cs : List Value) : Value := .func (.method "") cs.toArray #[]

/-- A value that bears no block's name. -/
def noId : Value → Bool
  | .bool _ | .int _ _ | .string _ | .nilFunc | .nilIface | .pointer none | .slice none 0 0 | .map none | .func (.methodOf _ _) _ _ | .func (.method _) _ _ => true
  | .iface _ v => noId v
  | _ => false

theorem VR.pure {ρ : Ren} {v v' : Value} (h : VR ρ v v') (hn : noId v = true) : VR ρ.pure v v' := by
  induction h with
  | bool b => exact .bool b
  | int k n => exact .int k n
  | string s => exact .string s
  | nilFunc => exact .nilFunc
  | nilIface => exact .nilIface
  | ptrNil => exact .ptrNil
  | slNil => exact .slNil
  | mapNil => exact .mapNil
  | iface t _ ih => exact .iface t (ih (by simpa [noId] using hn))
  | frzS hc h => exact .frzS hc h
  | frzN h => exact .frzN h
  | frzZ h => exact .frzZ h
  | frzP h => exact .frzP h
  | func fn hm hf _ hc _ ih1 ih2 => cases fn <;> simp [fnOk] at hm <;> simp [noId] at hn
  | _ => simp [noId] at hn

/-- A block that one will not write any more. -/
theorem Sim.freeze {B : Nat} {ρ : Ren} {H : AH} {w : World} (h : Sim B ρ H w) {b : Nat} {cs ex : List Value} {r : RB} (hb : H.blk b = some (.cells (cs ++ ex) true)) (hr : ρ b = some r) (hn : cs.all noId = true) :
    ∃ ρ' : Ren, ρ'.f = ρ.f ∧ RenLe ρ ρ' ∧ Sim B ρ' (H.kill b) w ∧ ∀ i v, cs[i]? = some v → ρ'.z r.blk (r.sh + i) v := by
  obtain ⟨r', hr', hat⟩ := h.get b _ hb
  rw [hr] at hr'; cases hr'
  obtain ⟨c, elem, fz, h1, h2, h3, h4, h5⟩ := hat
  have hnz := h.own b _ r hb rfl hr
  let ρ' : Ren := ⟨ρ.f, fun B o v => (B = r.blk ∧ r.sh ≤ o ∧ cs[o - r.sh]? = some v) ∨ ρ.z B o v⟩
  have hle : RenLe ρ ρ' := ⟨fun _ _ h => h, fun B o v hv => .inr hv⟩
  have hlep : RenLe ρ.pure ρ'.pure := ⟨fun _ _ h => (by cases h), hle.z⟩
  have hk := h.kill hb rfl hr rfl (fun _ _ => rfl)
  refine ⟨ρ', rfl, hle, ⟨h.base, ?_, hk.inj, hk.fresh, ?_, ?_⟩, ?_⟩
  · intro b1 x hx
    obtain ⟨r1, g1, g2⟩ := hk.get b1 x hx
    exact ⟨r1, g1, AObj.at_mono hle rfl g2⟩
  · intro B o v hv
    rcases hv with ⟨rfl, hsh, hv⟩ | hv
    · have hv' : (cs ++ ex)[o - r.sh]? = some v := by
        rw [List.getElem?_append, if_pos (List.getElem?_eq_some_iff.1 hv).1]; exact hv
      obtain ⟨ok, v', g1, g2⟩ := h4 _ v hv'
      refine ⟨ok, c, elem, fz, v', h1, by rw [← g1]; congr 1; omega, ((g2.mono hle).pure (List.all_eq_true.1 hn v (List.mem_of_getElem? hv)))⟩
    · obtain ⟨ok, c', e', f', v', g1, g2, g3⟩ := h.frz B o v hv
      exact ⟨ok, c', e', f', v', g1, g2, g3.mono hlep⟩
  · intro b1 x r1 hx hrw' g1 k v hv
    have e1 : b1 ≠ b := by rintro rfl; simp [AH.kill] at hx
    have hx' := hx
    simp only [AH.kill, upd_ne _ _ e1] at hx'
    have hne : r1.blk ≠ r.blk := h.inj b1 b x _ r1 r e1 hx' hb hrw' g1 hr
    rcases hv with ⟨e, _⟩ | hv
    · exact hne e
    · exact h.own b1 x r1 hx' hrw' g1 k v hv
  · intro i v hi
    exact .inl ⟨rfl, Nat.le_add_right _ _, by rw [Nat.add_sub_cancel_left]; exact hi⟩

/-- A value whose names are old ones. -/
theorem VR.join {ρ ρ' : Ren} (hle : RenLe ρ ρ') {v x : Value} (h : VR ρ v x) : ∀ {y : Value}, VR ρ' v y → VR ⟨ρ.f, ρ'.z⟩ v y := by
  induction h with
  | unk v => intro y k; exact .unk y
  | bool b => intro y k; cases k; exact .bool b
  | int k n => intro y k; cases k; exact .int _ n
  | string s => intro y k; cases k; exact .string s
  | nilFunc => intro y k; cases k; exact .nilFunc
  | nilIface => intro y k; cases k; exact .nilIface
  | ptrNil => intro y k; cases k; exact .ptrNil
  | ptr hr => intro y k; cases k with
    | ptr hr' => rw [hle.f _ _ hr] at hr'; cases hr'; exact .ptr hr
  | slNil => intro y k; cases k; exact .slNil
  | slEx hr => intro y k; cases k with
    | slEx hr' => rw [hle.f _ _ hr] at hr'; cases hr'; exact .slEx hr
    | slZ => exact .slZ
  | slZ => intro y k; cases k with
    | slEx hr' => exact .slZ
    | slZ => exact .slZ
  | mapNil => intro y k; cases k; exact .mapNil
  | map hr => intro y k; cases k with
    | map hr' => rw [hle.f _ _ hr] at hr'; cases hr'; exact .map hr
  | func fn hm hf _ hc _ ih1 ih2 => intro y k; cases k with
    | func _ _ hf' h1 hc' h2 => exact .func fn hm hf' (fun i hi => ih1 i hi (h1 i hi)) hc' (fun i hi => ih2 i hi (h2 i hi))
    | frzS => cases hm
    | frzN => cases hm
    | frzZ => cases hm
    | frzP => cases hm
  | iface t _ ih => intro y k; cases k with
    | iface _ k => exact .iface t (ih k)
  | agg hs _ ih => intro y k; cases k with
    | agg hs' k => exact .agg hs' fun i hi => ih i hi (k i hi)
  | tuple hs _ ih => intro y k; cases k with
    | tuple hs' k => exact .tuple hs' fun i hi => ih i hi (k i hi)
  | frzS hc h => intro y k; cases k with
    | func _ hm => cases hm
    | frzS hc' h' => exact .frzS hc' h'
    | frzN h' => exact .frzN h'
    | frzZ h' => exact .frzZ h'
  | frzN h => intro y k; cases k with
    | func _ hm => cases hm
    | frzS hc' h' => exact .frzS hc' h'
    | frzN h' => exact .frzN h'
    | frzZ h' => exact .frzZ h'
  | frzZ h => intro y k; cases k with
    | func _ hm => cases hm
    | frzS hc' h' => exact .frzS hc' h'
    | frzN h' => exact .frzN h'
    | frzZ h' => exact .frzZ h'
  | frzP h => intro y k; cases k with
    | func _ hm => cases hm
    | frzP h' => exact .frzP h'

end Go.Proofs.YtmknkpcdfkpobaaA
