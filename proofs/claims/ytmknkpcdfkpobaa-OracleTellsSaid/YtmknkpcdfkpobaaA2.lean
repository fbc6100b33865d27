/- Lists of abstract values, a frame's slots, reading and writing of cells. -/
import Derived.Test.YtmknkpcdfkpobaaA1
namespace Go.Proofs.YtmknkpcdfkpobaaA
open Go.RowKit

def LR (ρ : Ren) : List Value → List Value → Prop
  | [], [] => True
  | a :: l, b :: l' => VR ρ a b ∧ LR ρ l l'
  | _, _ => False

section
variable {ρ : Ren}

theorem LR.mono {ρ' : Ren} (hρ : RenLe ρ ρ') : ∀ {l l' : List Value}, LR ρ l l' → LR ρ' l l'
  | [], [], _ => trivial
  | _ :: _, _ :: _, h => ⟨h.1.mono hρ, h.2.mono hρ⟩
  | [], _ :: _, h => h.elim
  | _ :: _, [], h => h.elim

theorem LR.length : ∀ {l l' : List Value}, LR ρ l l' → l.length = l'.length
  | [], [], _ => rfl
  | _ :: _, _ :: _, h => by simp [h.2.length]
  | [], _ :: _, h => h.elim
  | _ :: _, [], h => h.elim

theorem LR.get : ∀ {l l' : List Value} (_ : LR ρ l l') (i : Nat) (v : Value), l[i]? = some v → ∃ v', l'[i]? = some v' ∧ VR ρ v v'
  | [], [], _, i, v, hi => by simp at hi
  | a :: l, b :: l', h, 0, v, hi => ⟨b, rfl, by simp at hi; subst hi; exact h.1⟩
  | a :: l, b :: l', h, i + 1, v, hi => by simpa using LR.get h.2 i v (by simpa using hi)
  | [], _ :: _, h, _, _, _ => h.elim
  | _ :: _, [], h, _, _, _ => h.elim

theorem LR.getD {l l' : List Value} (h : LR ρ l l') (i : Nat) : VR ρ (l.getD i undef) (l'.getD i undef) := by
  cases hi : l[i]? with
  | some v =>
    obtain ⟨v', h1, h2⟩ := h.get i v hi
    simpa [List.getD, hi, h1] using h2
  | none =>
    have : l'[i]? = none := by
      rw [List.getElem?_eq_none_iff] at hi ⊢
      rw [← h.length]; exact hi
    simpa [List.getD, hi, this] using VR.und

theorem LR.of_get : ∀ {l l' : List Value}, l.length = l'.length → (∀ (i : Nat) (v : Value), l[i]? = some v → ∃ v', l'[i]? = some v' ∧ VR ρ v v') → LR ρ l l'
  | [], [], _, _ => trivial
  | a :: l, b :: l', hl, h => by
    refine ⟨?_, LR.of_get (by simpa using hl) fun i v hi => by simpa using h (i + 1) v (by simpa using hi)⟩
    obtain ⟨v', h1, h2⟩ := h 0 a rfl
    simp at h1; subst h1; exact h2
  | [], _ :: _, hl, _ => by simp at hl
  | _ :: _, [], hl, _ => by simp at hl

theorem LR.append {l l' m m' : List Value} (h : LR ρ l l') (k : LR ρ m m') : LR ρ (l ++ m) (l' ++ m') := by
  induction l generalizing l' with
  | nil => cases l' with
    | nil => exact k
    | cons b l' => exact h.elim
  | cons a l ih => cases l' with
    | nil => exact h.elim
    | cons b l' => exact ⟨h.1, ih h.2⟩

theorem LR.drop {l l' : List Value} (h : LR ρ l l') (n : Nat) : LR ρ (l.drop n) (l'.drop n) :=
  .of_get (by simp [h.length]) fun i v hi => by
    rw [List.getElem?_drop] at hi ⊢
    exact h.get _ v hi

theorem LR.take {l l' : List Value} (h : LR ρ l l') (n : Nat) : LR ρ (l.take n) (l'.take n) :=
  .of_get (by simp [h.length]) fun i v hi => by
    rw [List.getElem?_take] at hi ⊢
    by_cases hlt : i < n
    · simp [hlt] at hi ⊢; exact h.get _ v hi
    · simp [hlt] at hi

theorem LR.set {l l' : List Value} (h : LR ρ l l') (n : Nat) {v v' : Value} (hv : VR ρ v v') : LR ρ (l.set n v) (l'.set n v') :=
  .of_get (by simp [h.length]) fun i u hi => by
    rw [List.getElem?_set] at hi ⊢
    by_cases e : n = i
    · subst e
      by_cases hlt : n < l.length
      · simp [hlt] at hi; subst hi
        exact ⟨v', by simp [← h.length, hlt], hv⟩
      · simp [hlt] at hi
    · simp [e] at hi ⊢; exact h.get _ u hi

theorem LR.replicate_undef (n : Nat) : LR ρ (List.replicate n undef) (List.replicate n undef) :=
  .of_get rfl fun i v hi => ⟨v, hi, by rw [List.getElem?_replicate] at hi; split at hi <;> simp at hi; subst hi; exact VR.und⟩

theorem LR.map {α : Type} {f g : α → Value} {l : List α} (h : ∀ x ∈ l, VR ρ (f x) (g x)) : LR ρ (l.map f) (l.map g) := by
  induction l with
  | nil => trivial
  | cons a l ih => exact ⟨h a (by simp), ih fun x hx => h x (by simp [hx])⟩

theorem LR.arr {c c' : Array Value} (h : LR ρ c.toList c'.toList) : c.size = c'.size ∧ ∀ i, i < c.size → VR ρ (c.getD i undef) (c'.getD i undef) := by
  refine ⟨by simpa using h.length, fun i hi => ?_⟩
  have h' := h.getD i
  have hi' : i < c'.size := by have := h.length; simp at this; omega
  simpa [List.getD, Array.getD, hi, hi'] using h'

theorem LR.of_arr {c c' : Array Value} (hs : c.size = c'.size) (h : ∀ i, i < c.size → VR ρ (c.getD i undef) (c'.getD i undef)) : LR ρ c.toList c'.toList :=
  .of_get (by simpa using hs) fun i v hi => by
    have hlt : i < c.size := by
      rcases Nat.lt_or_ge i c.size with h | h
      · exact h
      · rw [List.getElem?_eq_none (by simpa using h)] at hi; cases hi
    have := h i hlt
    have hlt' : i < c'.size := by omega
    simp [hlt] at hi
    subst hi
    refine ⟨c'[i], by simp [hlt'], ?_⟩
    simpa [Array.getD, hlt, hlt'] using this

theorem VR.aggL {c c' : Array Value} (h : LR ρ c.toList c'.toList) : VR ρ (.agg c) (.agg c') := .agg h.arr.1 h.arr.2
theorem VR.tupleL {c c' : Array Value} (h : LR ρ c.toList c'.toList) : VR ρ (.tuple c) (.tuple c') := .tuple h.arr.1 h.arr.2
end

/-! ### Slots -/

/-- A constant that holds no place. -/
def closedC : Value → Bool
  | .bool _ | .int _ _ | .string _ | .nilFunc | .nilIface | .pointer none | .slice none 0 0 | .map none => true
  | _ => false
def closed : Value → Bool
  | .agg cs => cs.toList.all closedC
  | v => closedC v

def constV (v : Value) : Value := if closed v then v else unk

theorem VR.closedC {ρ : Ren} {v : Value} (h : closedC v = true) : VR ρ v v := by
  unfold YtmknkpcdfkpobaaA.closedC at h
  split at h <;> first | constructor | simp at h

theorem VR.closed {ρ : Ren} {v : Value} (h : closed v = true) : VR ρ v v := by
  cases v with
  | agg cs =>
    refine .agg rfl fun i hi => ?_
    have h' : cs.toList.all YtmknkpcdfkpobaaA.closedC = true := h
    rw [List.all_eq_true] at h'
    refine VR.closedC (h' _ ?_)
    have : cs.getD i undef = cs[i] := by simp [Array.getD, hi]
    rw [this]; simp
  | _ => exact VR.closedC h

theorem VR.constV {ρ : Ren} (v : Value) : VR ρ (constV v) v := by
  unfold YtmknkpcdfkpobaaA.constV
  split
  · rename_i h; exact VR.closed h
  · exact .unk v

def evalL (env : List Value) : Operand → Value
  | .tmp t => env.getD t undef
  | .const v => constV v
  | .global _ => unk
  | .func f => .func (.func f) #[] #[]

def putL (env : List Value) (d : Option Tmp) (v : Value) : List Value :=
  match d with
  | some d => env.set d v
  | none => env

theorem VR.eval {ρ : Ren} {env : List Value} {a : Act} (h : LR ρ env a.tmps.toList) (x : Operand) : VR ρ (evalL env x) (a.eval x) := by
  cases x with
  | tmp t =>
    have := h.getD t
    have e : a.tmps.toList.getD t undef = a.tmps.getD t undef := by simp [List.getD, Array.getD]; split <;> simp_all
    rw [e] at this
    exact this
  | const v => exact VR.constV v
  | global g => exact .unk _
  | func f => exact .func _ rfl rfl (fun i hi => absurd hi (by simp)) rfl (fun i hi => absurd hi (by simp))

theorem LR.put {ρ : Ren} {env : List Value} {a : Act} (h : LR ρ env a.tmps.toList) (d : Option Tmp) {v v' : Value} (hv : VR ρ v v') : LR ρ (putL env d v) (a.put d v').tmps.toList := by
  cases d with
  | none => exact h
  | some d => simpa [putL, Act.put] using h.set d hv

/-! ### Cells -/

theorem CellsAt.read {ρ : Ren} {cs : List Value} {rw : Bool} {B : Nat} {r : RB} {w : World} (h : CellsAt ρ cs rw B r w) {i : Nat} {v : Value} (hi : cs[i]? = some v) :
    ∃ v', w.cell? ⟨r.blk, r.sh + i, none⟩ = some v' ∧ VR ρ v v' ∧ okCell v = true := by
  obtain ⟨c, elem, fz, h1, h2, h3, h4, h5⟩ := h
  obtain ⟨ok, v', hv', hr⟩ := h4 i v hi
  exact ⟨v', by simp [World.cell?, h1, hv'], hr, ok⟩

theorem Addr.add_none (b o n : Nat) : (⟨b, o, none⟩ : Addr).add n = ⟨b, o + n, none⟩ := by unfold Addr.add; split <;> simp_all

theorem CellsAt.reads {ρ : Ren} {cs : List Value} {rw : Bool} {B : Nat} {r : RB} {w : World} (h : CellsAt ρ cs rw B r w) (o n : Nat) (hn : o + n ≤ cs.length) :
    ∃ l' : List Value, l'.length = n ∧ LR ρ ((cs.drop o).take n) l' ∧ (∀ v ∈ (cs.drop o).take n, okCell v = true) ∧
      (∀ j v', l'[j]? = some v' → w.cell? ((⟨r.blk, r.sh + o, none⟩ : Addr).add j) = some v') := by
  obtain ⟨c, elem, fz, h1, h2, h3, h4, h5⟩ := h
  have hl : ((cs.drop o).take n).length = n := by simp; omega
  have hl' : ((c.toList.drop (r.sh + o)).take n).length = n := by simp; omega
  refine ⟨(c.toList.drop (r.sh + o)).take n, hl', .of_get (by omega) ?_, ?_, ?_⟩
  · intro i v hi
    rw [List.getElem?_take] at hi ⊢
    by_cases hlt : i < n
    · simp only [hlt, if_true, List.getElem?_drop] at hi ⊢
      obtain ⟨_, v', hv', hr⟩ := h4 _ v hi
      exact ⟨v', by simpa [Nat.add_assoc] using hv', hr⟩
    · simp [hlt] at hi
  · intro v hv
    have hv' := List.mem_of_mem_drop (List.mem_of_mem_take hv)
    obtain ⟨i, hi⟩ := List.getElem?_of_mem hv'
    exact (h4 i v hi).1
  · intro j v' hj
    rw [Addr.add_none]
    rw [List.getElem?_take] at hj
    by_cases hlt : j < n
    · simp only [hlt, if_true, List.getElem?_drop] at hj
      simpa [World.cell?, h1, Nat.add_assoc] using hj
    · simp [hlt] at hj

/-- Cells that no one will write any more are read. -/
theorem Sim.zread {B : Nat} {ρ : Ren} {H : AH} {w : World} (h : Sim B ρ H w) {b o : Nat} {v : Value} (hz : ρ.z b o v) : ∃ v', w.cell? ⟨b, o, none⟩ = some v' ∧ VR ρ v v' ∧ okCell v = true := by
  obtain ⟨ok, c, elem, fz, v', h1, h2, h3⟩ := h.frz b o v hz
  exact ⟨v', by simp [World.cell?, h1, h2], h3.mono ρ.pure_le, ok⟩

theorem Sim.zreads {B : Nat} {ρ : Ren} {H : AH} {w : World} (h : Sim B ρ H w) {b : Nat} : ∀ (n : Nat) (cs : List Value) (o : Nat), (∀ i v, cs[i]? = some v → ρ.z b (o + i) v) → n ≤ cs.length →
    ∃ l' : List Value, l'.length = n ∧ LR ρ (cs.take n) l' ∧ (∀ v ∈ cs.take n, okCell v = true) ∧ (∀ j v', l'[j]? = some v' → w.cell? ((⟨b, o, none⟩ : Addr).add j) = some v')
  | 0, cs, o, _, _ => ⟨[], rfl, by simp; trivial, by simp, fun j v' hj => by simp at hj⟩
  | n + 1, [], o, _, hn => by simp at hn
  | n + 1, v :: cs, o, hz, hn => by
    obtain ⟨v', h1, h2, h3⟩ := h.zread (hz 0 v rfl)
    obtain ⟨l', g1, g2, g3, g4⟩ := Sim.zreads h n cs (o + 1) (fun i u hi => by rw [Nat.add_assoc, Nat.add_comm 1 i]; exact hz (i + 1) u hi) (by simpa using hn)
    refine ⟨v' :: l', by simp [g1], ⟨h2, g2⟩, ?_, ?_⟩
    · intro u hu
      rw [List.take_succ_cons, List.mem_cons] at hu
      rcases hu with rfl | hu
      · exact h3
      · exact g3 u hu
    · intro j u hj
      rw [Addr.add_none]
      cases j with
      | zero => simp only [List.getElem?_cons_zero, Option.some.injEq] at hj; subst hj; exact h1
      | succ j =>
        have := g4 j u (by simpa using hj)
        rw [Addr.add_none] at this
        rw [← this]; congr 2; omega

/-- Write a list of cells into a list, from a place on. -/
def splice (cs : List Value) (o : Nat) (vs : List Value) : List Value := cs.take o ++ vs ++ cs.drop (o + vs.length)

theorem splice_length {cs vs : List Value} {o : Nat} (h : o + vs.length ≤ cs.length) : (splice cs o vs).length = cs.length := by
  simp [splice]; omega

theorem splice_get {cs vs : List Value} {o : Nat} (h : o + vs.length ≤ cs.length) (i : Nat) :
    (splice cs o vs)[i]? = if i < o then cs[i]? else if i < o + vs.length then vs[i - o]? else cs[i]? := by
  unfold splice
  have ht : (cs.take o).length = o := by simp; omega
  rw [List.append_assoc, List.getElem?_append, ht]
  by_cases h1 : i < o
  · simp [h1]
  · rw [if_neg h1, if_neg h1, List.getElem?_append]
    by_cases h2 : i < o + vs.length
    · rw [if_pos (by omega), if_pos h2]
    · rw [if_neg (by omega), if_neg h2, List.getElem?_drop]
      congr 1; omega

theorem CellsAt.write {ρ : Ren} {cs : List Value} {B : Nat} {r : RB} {w : World} (h : CellsAt ρ cs true B r w) {o : Nat} {vs vs' : List Value} (hn : o + vs.length ≤ cs.length)
    (hv : LR ρ vs vs') (hok : ∀ v ∈ vs, okCell v = true) (P : Program) :
    ∃ w', (storeCells ⟨r.blk, r.sh + o, none⟩ vs').run P w = .ok () w' ∧ w'.heap.size = w.heap.size ∧ (∀ k, k ≠ r.blk → w'.heap[k]? = w.heap[k]?) ∧
      CellsAt ρ (splice cs o vs) true B r w' ∧ Below B w w' := by
  obtain ⟨c, elem, fz, h1, h2, h3, h4, h5⟩ := h
  obtain ⟨hB, rfl⟩ := h5 rfl
  have hlen := hv.length
  have hone : ∀ v' ∈ vs', v'.oneCell' = true := fun v' hv' => by
    obtain ⟨i, hi⟩ := List.getElem?_of_mem hv'
    have hlt : i < vs.length := by
      rw [hlen]
      rcases Nat.lt_or_ge i vs'.length with h | h
      · exact h
      · rw [List.getElem?_eq_none h] at hi; cases hi
    obtain ⟨u, hu, hr⟩ := hv.get i vs[i] (by simp [hlt])
    rw [hi] at hu; cases hu
    exact (okCell_one hr (hok _ (by simp))).1
  have hst := run_storeCells_at (P := P) r.blk (r.sh + o) elem vs' 0 c w h1 (by omega) hone
  simp only [Nat.add_zero] at hst
  refine ⟨_, hst, by simp, fun k hk => setRow_other w r.blk k _ hk, ?_, below_setRow (Below.refl B w) hB _⟩
  refine ⟨_, elem, (0, 0), setRow_heap w r.blk c _ elem (0, 0) h1, ?_, by rw [splice_length hn]; exact h3, ?_, fun _ => ⟨hB, rfl⟩⟩
  · simp; omega
  · intro i v hi
    rw [splice_get hn] at hi
    have hto : (c.toList.take (r.sh + o)).length = r.sh + o := by simp; omega
    by_cases h6 : i < o
    · rw [if_pos h6] at hi
      obtain ⟨ok, v', hv', hr⟩ := h4 i v hi
      refine ⟨ok, v', ?_, hr⟩
      rw [List.getElem?_toArray, List.append_assoc, List.getElem?_append, hto, if_pos (by omega), List.getElem?_take, if_pos (by omega)]
      simpa using hv'
    · rw [if_neg h6] at hi
      by_cases h7 : i < o + vs.length
      · rw [if_pos h7] at hi
        obtain ⟨v', hv', hr⟩ := hv.get _ v hi
        refine ⟨hok v (List.mem_of_getElem? hi), v', ?_, hr⟩
        rw [List.getElem?_toArray, List.append_assoc, List.getElem?_append, hto, if_neg (by omega), List.getElem?_append, if_pos (by omega)]
        rw [show r.sh + i - (r.sh + o) = i - o by omega]; exact hv'
      · rw [if_neg h7] at hi
        obtain ⟨ok, v', hv', hr⟩ := h4 i v hi
        refine ⟨ok, v', ?_, hr⟩
        rw [List.getElem?_toArray, List.append_assoc, List.getElem?_append, hto, if_neg (by omega), List.getElem?_append, if_neg (by omega), List.getElem?_drop]
        rw [show r.sh + o + vs'.length + (r.sh + i - (r.sh + o) - vs'.length) = r.sh + i by omega]
        simpa using hv'

/-- A new block of cells. -/
theorem CellsAt.new {ρ : Ren} {cs cs' : List Value} {B : Nat} {w : World} (hv : LR ρ cs cs') (hok : ∀ v ∈ cs, okCell v = true) (hB : B ≤ w.heap.size) (elem : TypeId) (extra : List Value) :
    CellsAt ρ cs true B ⟨w.heap.size, 0, (cs' ++ extra).length⟩ (w.alloc (.cells (cs' ++ extra).toArray elem)) := by
  refine ⟨(cs' ++ extra).toArray, elem, (0, 0), Array.getElem?_push_size, by simp, by simp [hv.length], ?_, fun _ => ⟨hB, rfl⟩⟩
  intro i v hi
  obtain ⟨v', hv', hr⟩ := hv.get i v hi
  refine ⟨hok v (List.mem_of_getElem? hi), v', ?_, hr⟩
  have hlt := (List.getElem?_eq_some_iff.1 hv').1
  simp only [Nat.zero_add, List.getElem?_toArray, List.getElem?_append, if_pos hlt, hv']

end Go.Proofs.YtmknkpcdfkpobaaA
