/- Opening of a law's arguments. -/
import Derived.Test.YtmknkpcdfkpobaaA20
import Derived.WalkKit
import Derived.ProofKit
import Derived.ShutString
import Derived.ChangeOld
import Derived.Below
import Derived.SizedLaws
set_option linter.unusedVariables false
set_option linter.unusedSimpArgs false
namespace Go.Proofs.YtmknkpcdfkpobaaA
open Go.RowKit

theorem HasFT.list {α : Type} (f : α → List Value) (p : α → Prop) {e : FT} (h : ∀ x, HasFT e x → ∃ a, p a ∧ x = f a) {cs : List Value} (hs : HasFT (.slice e) cs) :
    ∃ l : List α, (∀ a ∈ l, p a) ∧ l.length ≤ 9223372036854775807 ∧ cs = [FS (l.flatMap f) l.length] := by
  unfold HasFT at hs
  obtain ⟨l, hl, hx, rfl⟩ := hs
  have key : ∀ l : List (List Value), (∀ x ∈ l, HasFT e x) → ∃ m : List α, (∀ a ∈ m, p a) ∧ m.length = l.length ∧ l.flatten = m.flatMap f := by
    intro l
    induction l with
    | nil => exact fun _ => ⟨[], fun a ha => (by cases ha), rfl, rfl⟩
    | cons x l ih =>
      intro hx
      obtain ⟨m, h1, h2, h3⟩ := ih fun y hy => hx y (by simp [hy])
      obtain ⟨a, ha, rfl⟩ := h x (hx x (by simp))
      refine ⟨a :: m, fun b hb => ?_, by simp [h2], by simp [h3]⟩
      rcases List.mem_cons.1 hb with rfl | hb
      · exact ha
      · exact h1 b hb
  obtain ⟨m, h1, h2, h3⟩ := key l hx
  exact ⟨m, h1, by rw [h2]; exact hl, by rw [h3, h2]⟩

theorem flatMap_one {α β : Type} (f : α → β) (l : List α) : (l.flatMap fun x => [f x]) = l.map f := by
  induction l with
  | nil => rfl
  | cons a l ih => rw [List.flatMap_cons, ih]; rfl

theorem HasFT.ints {cs : List Value} (hs : HasFT (.slice .int) cs) : ∃ l : List Int, (∀ a ∈ l, I64 a) ∧ l.length ≤ 9223372036854775807 ∧ cs = [FS (l.map (.int .i64)) l.length] := by
  obtain ⟨l, h1, h2, h3⟩ := HasFT.list (fun n => [.int .i64 n]) I64 (fun x hx => by unfold HasFT at hx; exact hx) hs
  exact ⟨l, h1, h2, by rw [h3, flatMap_one]⟩

theorem HasAll.cons {t : FT} {ts : List FT} {cs : List Value} (h : HasAll (t :: ts) cs) : ∃ a b, HasFT t a ∧ HasAll ts b ∧ cs = a ++ b := by unfold HasAll at h; exact h
theorem HasAll.nil {cs : List Value} (h : HasAll [] cs) : cs = [] := by unfold HasAll at h; exact h
theorem HasFT.agg {ts : List FT} {cs : List Value} (h : HasFT (.agg ts) cs) : HasAll ts cs := by unfold HasFT at h; exact h
theorem HasFT.int {cs : List Value} (h : HasFT .int cs) : ∃ n, I64 n ∧ cs = [.int .i64 n] := by unfold HasFT at h; exact h
theorem HasFT.bool {cs : List Value} (h : HasFT .bool cs) : ∃ b, cs = [.bool b] := by unfold HasFT at h; exact h
theorem HasFT.str {cs : List Value} (h : HasFT .str cs) : ∃ s : ByteArray, s.size ≤ 9223372036854775807 ∧ cs = [.string s] := by unfold HasFT at h; exact h
theorem HasAll.int {ts : List FT} {cs : List Value} (h : HasAll (.int :: ts) cs) : ∃ n b, I64 n ∧ HasAll ts b ∧ cs = .int .i64 n :: b := by
  obtain ⟨a, b, h1, h2, rfl⟩ := h.cons
  obtain ⟨n, h3, rfl⟩ := h1.int
  exact ⟨n, b, h3, h2, rfl⟩
theorem HasAll.bool {ts : List FT} {cs : List Value} (h : HasAll (.bool :: ts) cs) : ∃ n b, HasAll ts b ∧ cs = .bool n :: b := by
  obtain ⟨a, b, h1, h2, rfl⟩ := h.cons
  obtain ⟨n, rfl⟩ := h1.bool
  exact ⟨n, b, h2, rfl⟩

section
variable {H : Type} {enc : TypeId × Value → H} {P : Program} {w : World} {t : TypeId} {v : Value} {d : DataW H} {ps : List MemPlace}

theorem open_abs {ft : FT} (k : Nat) (hft : ftOf P k t = some ft) (h : DataW.Trod enc P w 0 (fun _ => true) true t v d ps) : ∃ cs', HasFT ft cs' ∧ LR (zRen w) cs' v.cells.toList := by
  obtain ⟨m, hm⟩ := h
  obtain ⟨cs', h1, h2, h3⟩ := trod_abs k hft hm
  refine ⟨cs', h1, .of_get h2 fun i u hu => ?_⟩
  have hlt : i < v.cells.toList.length := by have := (List.getElem?_eq_some_iff.1 hu).1; omega
  exact ⟨_, List.getElem?_eq_getElem hlt, (h3 i _ u (List.getElem?_eq_getElem hlt) hu).vr⟩

theorem open_one {cs : List Value} {u : Value} (hv : v.cells = #[v]) (hu : cs = [u]) (h : LR (zRen w) cs v.cells.toList) : VR (zRen w) u v := by
  subst hu
  rw [hv] at h
  exact h.1

/-- A slice of structs or arrays. -/
theorem open_list {α : Type} {e : FT} (f : α → List Value) (p : α → Prop) (hp : ∀ x, HasFT e x → ∃ a, p a ∧ x = f a) (k : Nat) (hft : ftOf P k t = some (.slice e)) (hv : v.cells = #[v])
    (h : DataW.Trod enc P w 0 (fun _ => true) true t v d ps) : ∃ l : List α, (∀ a ∈ l, p a) ∧ l.length ≤ 9223372036854775807 ∧ VR (zRen w) (FS (l.flatMap f) l.length) v := by
  obtain ⟨cs, h1, h2⟩ := open_abs k hft h
  obtain ⟨l, h3, h4, h5⟩ := h1.list f p hp
  exact ⟨l, h3, h4, open_one hv h5 h2⟩

theorem open_ints (k : Nat) (hft : ftOf P k t = some (.slice .int)) (hv : v.cells = #[v]) (h : DataW.Trod enc P w 0 (fun _ => true) true t v d ps) :
    ∃ l : List Int, (∀ a ∈ l, I64 a) ∧ l.length ≤ 9223372036854775807 ∧ VR (zRen w) (FS (l.map (.int .i64)) l.length) v := by
  obtain ⟨cs, h1, h2⟩ := open_abs k hft h
  obtain ⟨l, h3, h4, h5⟩ := h1.ints
  exact ⟨l, h3, h4, open_one hv h5 h2⟩

theorem open_agg {ts : List FT} (k : Nat) (hft : ftOf P k t = some (.agg ts)) (hv : ∃ cs, v = .agg cs) (h : DataW.Trod enc P w 0 (fun _ => true) true t v d ps) :
    ∃ cs, HasAll ts cs ∧ VR (zRen w) (.agg cs.toArray) v := by
  obtain ⟨cs, h1, h2⟩ := open_abs k hft h
  obtain ⟨c, rfl⟩ := hv
  exact ⟨cs, h1.agg, VR.aggL (c := cs.toArray) (c' := c) h2⟩

/-- A struct, or an array, of which is known what its cells are. -/
theorem open_st {α : Type} {ts : List FT} (f : α → List Value) (p : α → Prop) (hp : ∀ x, HasFT (.agg ts) x → ∃ a, p a ∧ x = f a) (k : Nat) (hft : ftOf P k t = some (.agg ts)) (hv : ∃ cs, v = .agg cs)
    (h : DataW.Trod enc P w 0 (fun _ => true) true t v d ps) : ∃ a : α, p a ∧ VR (zRen w) (.agg (f a).toArray) v := by
  obtain ⟨cs, h1, h2⟩ := open_agg k hft hv h
  obtain ⟨a, ha, rfl⟩ := hp cs (by unfold HasFT; exact h1)
  exact ⟨a, ha, h2⟩
end

theorem slice_cells {v : Value} (h : ∃ a len cap, v = .slice a len cap) : v.cells = #[v] := by obtain ⟨a, len, cap, rfl⟩ := h; rfl

theorem okWide_arr {P : Program} {w : World} {r : Go.Reach} {base : Nat} {t e : TypeId} {n : Nat} {v : Value} (ht : P.underlying t = some (.array n e)) (h : Value.okWide P w r base t v) : ∃ cs, v = .agg cs := by
  simp only [Value.okWide, ht] at h
  obtain ⟨cs, rfl, _⟩ := h
  exact ⟨cs, rfl⟩
theorem okWide_st {P : Program} {w : World} {r : Go.Reach} {base : Nat} {t : TypeId} {fs : Array Field} {v : Value} (ht : P.underlying t = some (.struct fs)) (h : Value.okWide P w r base t v) : ∃ cs, v = .agg cs := by
  simp only [Value.okWide, ht] at h
  obtain ⟨cs, rfl, _⟩ := h
  exact ⟨cs, rfl⟩

/-- What a law's walk tells, in the world. -/
theorem ACalls.law {P : Program} {f : FuncId} {args : List Value} {w : World} {args' : Array Value} (h : ACalls P f args H0 (fun v _ => v = .bool true)) (hL : LR (zRen w) args args'.toList) :
    Calls P f args' w fun e w' => e = .returned (.bool true) ∧ Below w.heap.size w w' := by
  refine (h w.heap.size (zRen w) w args' (zSim w) hL).mono ?_
  rintro e w' ⟨v, v', H', ρ', he, hv, hr, _, _, hb⟩
  subst hv
  cases hr
  exact ⟨he, hb⟩

theorem I64_of_wf {n : Int} (h : (Lit.int .i64 n).wf = true) : I64 n := by
  have := h
  simp only [Lit.wf, Bool.and_eq_true, decide_eq_true_eq] at this
  have h1 : IntKind.i64.min = -9223372036854775808 := by decide
  have h2 : IntKind.i64.max = 9223372036854775807 := by decide
  rw [h1, h2] at this
  exact this

/-! ### Two, three, four numbers -/

structure T2 where
  a : Int
  b : Int
deriving DecidableEq, Inhabited
structure T3 where
  a : Int
  b : Int
  c : Int
deriving DecidableEq, Inhabited
structure T4 where
  a : Int
  b : Int
  c : Int
  d : Int
deriving DecidableEq, Inhabited

def t2Cells (t : T2) : List Value := [.int .i64 t.a, .int .i64 t.b]
def t3Cells (t : T3) : List Value := [.int .i64 t.a, .int .i64 t.b, .int .i64 t.c]
def t4Cells (t : T4) : List Value := [.int .i64 t.a, .int .i64 t.b, .int .i64 t.c, .int .i64 t.d]
def T2.I64 (t : T2) : Prop := YtmknkpcdfkpobaaA.I64 t.a ∧ YtmknkpcdfkpobaaA.I64 t.b
def T3.I64 (t : T3) : Prop := YtmknkpcdfkpobaaA.I64 t.a ∧ YtmknkpcdfkpobaaA.I64 t.b ∧ YtmknkpcdfkpobaaA.I64 t.c
def T4.I64 (t : T4) : Prop := YtmknkpcdfkpobaaA.I64 t.a ∧ YtmknkpcdfkpobaaA.I64 t.b ∧ YtmknkpcdfkpobaaA.I64 t.c ∧ YtmknkpcdfkpobaaA.I64 t.d

theorem T2.ft (x : List Value) (h : HasFT (.agg [.int, .int]) x) : ∃ a : T2, a.I64 ∧ x = t2Cells a := by
  obtain ⟨n0, b0, g0, k0, e0⟩ := h.agg.int
  obtain ⟨n1, b1, g1, k1, e1⟩ := k0.int
  have e := k1.nil
  exact ⟨⟨n0, n1⟩, ⟨g0, g1⟩, by rw [e0, e1, e]; rfl⟩
theorem T3.ft (x : List Value) (h : HasFT (.agg [.int, .int, .int]) x) : ∃ a : T3, a.I64 ∧ x = t3Cells a := by
  obtain ⟨n0, b0, g0, k0, e0⟩ := h.agg.int
  obtain ⟨n1, b1, g1, k1, e1⟩ := k0.int
  obtain ⟨n2, b2, g2, k2, e2⟩ := k1.int
  have e := k2.nil
  exact ⟨⟨n0, n1, n2⟩, ⟨g0, g1, g2⟩, by rw [e0, e1, e2, e]; rfl⟩
theorem T4.ft (x : List Value) (h : HasFT (.agg [.int, .int, .int, .int]) x) : ∃ a : T4, a.I64 ∧ x = t4Cells a := by
  obtain ⟨n0, b0, g0, k0, e0⟩ := h.agg.int
  obtain ⟨n1, b1, g1, k1, e1⟩ := k0.int
  obtain ⟨n2, b2, g2, k2, e2⟩ := k1.int
  obtain ⟨n3, b3, g3, k3, e3⟩ := k2.int
  have e := k3.nil
  exact ⟨⟨n0, n1, n2, n3⟩, ⟨g0, g1, g2, g3⟩, by rw [e0, e1, e2, e3, e]; rfl⟩

end Go.Proofs.YtmknkpcdfkpobaaA
