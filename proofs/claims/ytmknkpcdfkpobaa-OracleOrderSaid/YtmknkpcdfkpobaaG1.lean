/- The world that a law is called in: what its arguments read as, as an abstract heap. -/
import Derived.Test.YtmknkpcdfkpobaaA17
set_option linter.unusedVariables false
set_option linter.unusedSimpArgs false
namespace Go.Proofs.YtmknkpcdfkpobaaA
open Go.RowKit

/-- No block of it may be written. -/
def RO (H : AH) : Prop := ∀ b o, H.blk b = some o → o.rw = false

def H0 : AH := ⟨fun _ => none, 0⟩
theorem H0_ro : RO H0 := fun b o h => by cases h
theorem H0_sim (w : World) : Sim w.heap.size (fun _ => none) H0 w := ⟨Nat.le_refl _, fun b o h => (by cases h), fun b b' o o' r r' _ h => (by cases h), fun b _ => ⟨rfl, rfl⟩⟩

/-- One more block that is only read. -/
theorem Sim.read {B : Nat} {ρ : Ren} {H : AH} {w : World} (h : Sim B ρ H w) (hro : RO H) {cs : List Value} {r : RB} (ho : CellsAt (upd ρ H.next (some r)) cs false B r w) :
    Sim B (upd ρ H.next (some r)) (H.alloc (.cells cs false)) w ∧ RenLe ρ (upd ρ H.next (some r)) ∧ RO (H.alloc (.cells cs false)) := by
  have hle : RenLe ρ (upd ρ H.next (some r)) := fun b x hb => by
    rw [upd_ne]; · exact hb
    · rintro rfl; rw [(h.fresh H.next (Nat.le_refl _)).2] at hb; cases hb
  have hro' : RO (H.alloc (.cells cs false)) := by
    intro b o hb
    by_cases hbn : b = H.next
    · subst hbn
      rw [AH.blk_alloc] at hb; cases hb; rfl
    · rw [AH.blk_alloc_ne _ _ hbn] at hb
      exact hro b o hb
  refine ⟨⟨h.base, ?_, ?_, ?_⟩, hle, hro'⟩
  · intro b x hb
    by_cases hbn : b = H.next
    · subst hbn
      rw [AH.blk_alloc] at hb; cases hb
      exact ⟨r, upd_same _ _ _, ho⟩
    · rw [AH.blk_alloc_ne _ _ hbn] at hb
      obtain ⟨r', h1, h2⟩ := h.get b x hb
      exact ⟨r', hle _ _ h1, AObj.at_mono hle rfl h2⟩
  · intro b b' x x' r1 r2 hne hb hb' hrw
    have := hro' b x hb
    rw [this] at hrw; cases hrw
  · intro b hb
    simp only [AH.alloc] at hb ⊢
    have hne : b ≠ H.next := by omega
    rw [upd_ne _ _ hne, upd_ne _ _ hne]
    exact h.fresh b (by omega)

/-- A row of ints, as a slice. -/
theorem Sim.ints {B : Nat} {ρ : Ren} {H : AH} {w : World} (h : Sim B ρ H w) (hro : RO H) {a : Option Addr} {len cap : Nat} {zs : List Int}
    (hr : (a = none ∧ len = 0 ∧ cap = 0 ∧ zs = []) ∨ ∃ x, a = some x ∧ len ≤ cap ∧ cap ≤ maxLen ∧ zs.length = cap ∧ (∀ i, i < zs.length → w.cell? (x.add i) = some (.int .i64 (zs.getD i 0))) ∧ ∀ n ∈ zs, (Lit.int .i64 n).wf = true) :
    ∃ ρ' H' a' , Sim B ρ' H' w ∧ RenLe ρ ρ' ∧ RO H' ∧ Ext H H' ∧ VR ρ' (.slice a' len cap) (.slice a len cap) ∧ Sl H' 1 ((zs.take len).map (.int .i64)) a' len cap ∧ (zs.take len).length = len := by
  rcases hr with ⟨rfl, rfl, rfl, rfl⟩ | ⟨x, rfl, hl, hm, hz, hc, _⟩
  · exact ⟨ρ, H, none, h, RenLe.refl ρ, hro, Ext.refl H, .slNil, Sl.nil' H 1, rfl⟩
  · by_cases hc0 : cap = 0
    · subst hc0
      have : len = 0 := by omega
      subst this
      exact ⟨ρ, H, some ⟨0, 0, some 0⟩, h, RenLe.refl ρ, hro, Ext.refl H, .slZ, ⟨by simp, Nat.le_refl _, fun e => (by cases e), fun e => absurd e (Nat.lt_irrefl 0)⟩, by simp⟩
    · -- the block
      have c0 := hc 0 (by omega)
      have hx0 : x.add 0 = x := by simp [Addr.add]
      rw [hx0] at c0
      unfold World.cell? at c0
      split at c0
      · rename_i c elem fz hb
        split at c0
        · cases c0
        · rename_i hsp
          obtain ⟨xb, xo, xs⟩ := x
          have hsn : xs = none := by cases xs with
            | none => rfl
            | some _ => simp at hsp
          subst hsn
          have cell : ∀ i, i < zs.length → c[xo + i]? = some (.int .i64 (zs.getD i 0)) := by
            intro i hi
            have := hc i hi
            rw [Addr.add_none] at this
            unfold World.cell? at this
            rw [hb] at this
            simpa using this
          have hsz : xo + zs.length ≤ c.size := by
            have := cell (zs.length - 1) (by omega)
            have := (Array.getElem?_eq_some_iff.1 this).1
            omega
          obtain ⟨h1, h2, h3⟩ := h.read hro (cs := zs.map (.int .i64)) (r := ⟨xb, xo, c.size⟩) ⟨c, elem, fz, hb, rfl, by simpa using hsz, fun i v hi => by
            rw [List.getElem?_map] at hi
            cases hzi : zs[i]? with
            | none => rw [hzi] at hi; cases hi
            | some n =>
              rw [hzi] at hi
              cases hi
              have hil : i < zs.length := (List.getElem?_eq_some_iff.1 hzi).1
              refine ⟨rfl, _, cell i hil, ?_⟩
              have : zs.getD i 0 = n := by simp [List.getD, hzi]
              rw [this]; exact .int _ _, fun e => by cases e⟩
          refine ⟨_, _, some ⟨H.next, 0, some 0⟩, h1, h2, h3, Ext.alloc H _, .slEx (upd_same _ _ _), ⟨by simp; omega, hl, fun e => (by cases e), fun _ => ⟨H.next, 0, 0, rfl, Nat.lt_succ_self _, _, false, AH.blk_alloc _ _, by simp; omega, ?_⟩⟩, by simp; omega⟩
          simp [List.map_take]
      · cases c0

def IsRow (w : World) (a : Option Addr) (len cap : Nat) (zs : List Int) : Prop :=
  (a = none ∧ len = 0 ∧ cap = 0 ∧ zs = []) ∨
  ∃ x, a = some x ∧ len ≤ cap ∧ cap ≤ maxLen ∧ zs.length = cap ∧ (∀ i, i < zs.length → w.cell? (x.add i) = some (.int .i64 (zs.getD i 0))) ∧ ∀ n ∈ zs, (Lit.int .i64 n).wf = true

/-- What a law's walk tells, in the world. -/
theorem ACalls.law {P : Program} {f : FuncId} {args : List Value} {H : AH} {ρ : Ren} {w : World} {args' : Array Value} (h : ACalls P f args H (fun v _ => v = .bool true)) (hS : Sim w.heap.size ρ H w) (hL : LR ρ args args'.toList) :
    Calls P f args' w fun e w' => e = .returned (.bool true) ∧ Below w.heap.size w w' := by
  refine (h w.heap.size ρ w args' hS hL).mono ?_
  rintro e w' ⟨v, v', H', ρ', he, hv, hr, _, _, hb⟩
  subst hv
  cases hr
  exact ⟨he, hb⟩

theorem I64_of_wf {n : Int} (h : (Lit.int .i64 n).wf = true) : -9223372036854775808 ≤ n ∧ n ≤ 9223372036854775807 := by
  have := h
  simp only [Lit.wf, Bool.and_eq_true, decide_eq_true_eq] at this
  have h1 : IntKind.i64.min = -9223372036854775808 := by decide
  have h2 : IntKind.i64.max = 9223372036854775807 := by decide
  rw [h1, h2] at this
  exact this

theorem IsRow.i64 {w : World} {a : Option Addr} {len cap : Nat} {zs : List Int} (h : IsRow w a len cap zs) : (∀ x ∈ zs.take len, -9223372036854775808 ≤ x ∧ x ≤ 9223372036854775807) ∧ len ≤ 9223372036854775807 := by
  rcases h with ⟨_, h, _, rfl⟩ | ⟨x, _, hl, hm, hz, _, hw⟩
  · exact ⟨fun x hx => by simp at hx, by omega⟩
  · exact ⟨fun x hx => I64_of_wf (hw x (List.mem_of_mem_take hx)), Nat.le_trans hl hm⟩

/-- An array of two ints. -/
theorem okWide_arr2 {P : Program} {w : World} {r : Go.Reach} {base : Nat} {t e u : TypeId} {v : Value} (ht : P.underlying t = some (.array 2 e)) (hc : P.cellsOf t = 2) (hts : P.cellTypes P.depth t = some [u, u]) (hu : P.underlying u = some (.int .i64))
    (h : Value.okWide P w r base t v) : ∃ x y : Int, v = .agg #[.int .i64 x, .int .i64 y] ∧ (-9223372036854775808 ≤ x ∧ x ≤ 9223372036854775807) ∧ (-9223372036854775808 ≤ y ∧ y ≤ 9223372036854775807) := by
  simp only [Value.okWide, ht] at h
  obtain ⟨cs, rfl, hsz, ts, h1, _, h2⟩ := h
  rw [hts] at h1
  cases h1
  have hm1 : IntKind.i64.min = -9223372036854775808 := by decide
  have hm2 : IntKind.i64.max = 9223372036854775807 := by decide
  have cell : ∀ (i : Nat) (v : Value), cs[i]? = some v → ∃ n : Int, v = Value.int .i64 n ∧ (-9223372036854775808 ≤ n ∧ n ≤ 9223372036854775807) := by
    intro i v hv
    obtain ⟨u', hu', hok⟩ := h2 i v hv
    have : u' = u := by
      have hlt : i % 2 < 2 := Nat.mod_lt _ (by decide)
      have h3 : i % [u, u].length = i % 2 := rfl
      rw [h3] at hu'
      rcases Nat.lt_or_ge (i % 2) 1 with h4 | h4
      · have : i % 2 = 0 := by omega
        rw [this] at hu'; simpa using hu'.symm
      · have : i % 2 = 1 := by omega
        rw [this] at hu'; simpa using hu'.symm
    subst this
    simp only [Cell.okWide, hu, Cell.ok] at hok
    cases v <;> simp_all [IntKind.has]
  rw [hc] at hsz
  obtain ⟨x, hx, hx'⟩ := cell 0 cs[0] (by simp [hsz])
  obtain ⟨y, hy, hy'⟩ := cell 1 cs[1] (by simp [hsz])
  refine ⟨x, y, ?_, hx', hy'⟩
  congr 1
  apply Array.ext
  · simp [hsz]
  · intro i hi1 hi2
    have : i = 0 ∨ i = 1 := by omega
    rcases this with rfl | rfl
    · simpa using hx
    · simpa using hy

end Go.Proofs.YtmknkpcdfkpobaaA
