/- Operations that make, cut, fill and grow slices. -/
import Derived.Test.YtmknkpcdfkpobaaA4
set_option linter.unusedVariables false
set_option linter.unusedSimpArgs false
namespace Go.Proofs.YtmknkpcdfkpobaaA
open Go.RowKit

section
variable {P : Program} {B : Nat} {ρ : Ren} {H : AH} {w : World} {K : Value → AH → Prop}

/-! ### Values that are built of parts -/

def afill (place : Nat → Option (Nat × Nat)) (cells : List Value) : List (Nat × Value) → Option (List Value)
  | [] => some cells
  | (i, v) :: rest =>
    match place i with
    | none => none
    | some (off, size) =>
      if (cellsL v).length = size ∧ off + size ≤ cells.length ∧ (cellsL v).all okCell = true then afill place (splice cells off (cellsL v)) rest else none

theorem foldl_set (vs : List Value) : ∀ (cs : Array Value) (o k : Nat), o + k + vs.length ≤ cs.size →
    ((vs.zipIdx k).foldl (fun cs (c, j) => cs.setIfInBounds (o + j) c) cs).toList = splice cs.toList (o + k) vs := by
  induction vs with
  | nil => intro cs o k h; simp [splice]
  | cons v vs ih =>
    intro cs o k h
    simp only [List.length_cons] at h
    simp only [List.zipIdx_cons, List.foldl_cons]
    rw [ih _ o (k + 1) (by simp; omega)]
    apply List.ext_getElem?
    intro i
    rw [splice_get (by simp; omega), splice_get (by simp; omega)]
    simp only [Array.toList_setIfInBounds, List.getElem?_set, Array.length_toList, List.length_cons]
    by_cases h1 : i < o + k
    · rw [if_pos (by omega), if_neg (by omega), if_pos h1]
    · by_cases h2 : i = o + k
      · subst h2
        rw [if_pos (by omega), if_pos rfl, if_pos (by omega), if_neg (by omega), if_pos (by omega)]
        simp
      · rw [if_neg (by omega), if_neg h1]
        by_cases h3 : i < o + k + 1 + vs.length
        · rw [if_pos (by omega), if_pos (by omega)]
          rw [show i - (o + k) = (i - (o + (k + 1))) + 1 by omega]
          simp
        · rw [if_neg (by omega), if_neg (by omega), if_neg (by omega)]

theorem LR.splice {cs cs' vs vs' : List Value} (h : LR ρ cs cs') (k : LR ρ vs vs') (o : Nat) : LR ρ (splice cs o vs) (splice cs' o vs') := by
  unfold YtmknkpcdfkpobaaA.splice
  have := k.length
  rw [← this]
  exact ((h.take o).append k).append (h.drop _)

theorem afill_good {place : Nat → Option (Nat × Nat)} : ∀ (parts parts' : List (Nat × Value)) (cs r : List Value) (cs' : Array Value), afill place cs parts = some r → LR ρ cs cs'.toList →
    parts.map (·.1) = parts'.map (·.1) → LR ρ (parts.map (·.2)) (parts'.map (·.2)) → ∃ r', Instr.fill place cs' parts' = some r' ∧ LR ρ r r'.toList
  | [], [], cs, r, cs', h, hc, _, _ => by
    simp only [afill, Option.some.injEq] at h; subst h
    exact ⟨cs', rfl, hc⟩
  | (i, v) :: rest, (i', v') :: rest', cs, r, cs', h, hc, hn, hv => by
    simp only [List.map_cons, List.cons.injEq] at hn
    obtain ⟨rfl, hn⟩ := hn
    simp only [afill] at h
    cases hp : place i with
    | none => simp [hp] at h
    | some os =>
      obtain ⟨off, size⟩ := os
      simp only [hp] at h
      split at h
      · rename_i hcond
        obtain ⟨h1, h2, h3⟩ := hcond
        have hL := LR.cells hv.1 h3
        have hlen := hL.length
        have hclen := hc.length
        simp at hlen hclen
        have hsp : ((v'.cells.zipIdx).foldl (fun cs (c, j) => cs.setIfInBounds (off + j) c) cs').toList = YtmknkpcdfkpobaaA.splice cs'.toList off v'.cells.toList := by
          have := foldl_set v'.cells.toList cs' off 0 (by simp; omega)
          rw [Nat.add_zero] at this
          rw [← this, ← Array.foldl_toList, Array.toList_zipIdx]
        have hnew : LR ρ (YtmknkpcdfkpobaaA.splice cs off (cellsL v)) ((v'.cells.zipIdx).foldl (fun cs (c, j) => cs.setIfInBounds (off + j) c) cs').toList := by
          rw [hsp]; exact hc.splice hL off
        obtain ⟨r', hr1, hr2⟩ := afill_good rest rest' _ r _ h hnew hn hv.2
        refine ⟨r', ?_, hr2⟩
        simp only [Instr.fill, hp]
        rw [if_neg (by simp; omega)]
        exact hr1
      · simp at h
  | [], _ :: _, _, _, _, _, _, hn, _ => by simp at hn
  | _ :: _, [], _, _, _, _, _, hn, _ => by simp at hn

/-- Where the fields of a struct type lie. -/
def aplaces (P : Program) (t : TypeId) : Option (List (Nat × Nat)) :=
  match P.underlying t with
  | some (.struct fields) => if fields.toList.all (fun f => (P.info? f.type).isSome) then some (fields.toList.map fun f => (f.offset, P.cellsOf f.type)) else none
  | _ => none

/-- The zero value's cells, if they hold no place. -/
def azero (P : Program) (t : TypeId) : Option (List Value) :=
  match tzero P t with
  | some z => if closed z then some (cellsL z) else none
  | none => none

theorem azero_some {t : TypeId} {l : List Value} (h : azero P t = some l) : ∃ z, tzero P t = some z ∧ z.cells.toList = l ∧ LR ρ l z.cells.toList := by
  unfold azero at h
  split at h
  · rename_i z hz
    split at h
    · rename_i hc
      simp only [Option.some.injEq] at h
      refine ⟨z, hz, by rw [cellsL_cells, h], ?_⟩
      subst h
      have hv : VR ρ z z := VR.closed hc
      rw [cellsL_cells]
      cases z with
      | agg cs =>
        cases hv with
        | agg hs hcs => exact LR.of_arr hs hcs
      | _ => exact ⟨hv, trivial⟩
    · simp at h
  · simp at h

def abuild (P : Program) (t : TypeId) (parts : List (Nat × Value)) : Option Value :=
  match azero P t with
  | none => none
  | some zero =>
    match P.underlying t with
    | some (.struct _) =>
      match aplaces P t with
      | some pl => (afill (pl[·]?) zero parts).map fun l => .agg l.toArray
      | none => none
    | some (.array _ elem) => if (P.info? elem).isSome then (afill (fun i => some (i * P.cellsOf elem, P.cellsOf elem)) zero parts).map fun l => .agg l.toArray else none
    | _ => none

theorem mapM_places (w : World) : ∀ (l : List Field), l.all (fun f => (P.info? f.type).isSome) = true →
    (l.mapM (fun f => (do Pure.pure (f.offset, ← sizeOf f.type) : Sem (Nat × Nat)))).run P w = .ok (l.map fun f => (f.offset, P.cellsOf f.type)) w
  | [], _ => by simp
  | f :: l, h => by
    simp only [List.all_cons, Bool.and_eq_true] at h
    obtain ⟨i, hi⟩ := Option.isSome_iff_exists.1 h.1
    simp only [List.mapM_cons, Sem.run_bind, run_sizeOf w hi, Result.andThen_ok, Sem.run_pure, mapM_places w l h.2, List.map_cons]

theorem abuild_good {t : TypeId} {parts parts' : List (Nat × Value)} {r : Value} (h : abuild P t parts = some r) (hn : parts.map (·.1) = parts'.map (·.1)) (hv : LR ρ (parts.map (·.2)) (parts'.map (·.2))) (w : World) :
    ∃ r', (Instr.build t parts'.toArray).run P w = .ok r' w ∧ VR ρ r r' := by
  unfold abuild at h
  cases hz : azero P t with
  | none => simp [hz] at h
  | some zero =>
    obtain ⟨z, hz1, hz2, hz3⟩ := azero_some (ρ := ρ) hz
    simp only [hz] at h
    split at h
    · rename_i fields hu
      cases hpl : aplaces P t with
      | none => simp [hpl] at h
      | some pl =>
        simp only [hpl, Option.map_eq_some_iff] at h
        obtain ⟨l, hl, rfl⟩ := h
        simp only [aplaces, hu] at hpl
        split at hpl
        · rename_i hall
          simp only [Option.some.injEq] at hpl; subst hpl
          obtain ⟨r', hr1, hr2⟩ := afill_good parts parts' zero l z.cells hl hz3 hn hv
          refine ⟨.agg r', ?_, VR.aggL (by simpa using hr2)⟩
          have hm : (fields.mapM (fun f => (do Pure.pure (f.offset, ← sizeOf f.type) : Sem (Nat × Nat)))).run P w = .ok (fields.toList.map fun f => (f.offset, P.cellsOf f.type)).toArray w := by
            rw [Array.mapM_eq_mapM_toList]
            simp only [Sem.run_map, mapM_places w _ hall, Result.andThen_ok]
          simp only [Instr.build, Sem.run_bind, tzero_run hz1, run_underlying hu, Result.andThen_ok, hm]
          have : (fun (x : Nat) => (fields.toList.map fun f => (f.offset, P.cellsOf f.type)).toArray[x]?) = (fun (x : Nat) => (fields.toList.map fun f => (f.offset, P.cellsOf f.type))[x]?) := by funext x; simp
          simp only [this, hr1, Sem.run_pure]
        · simp at hpl
    · rename_i n elem hu
      split at h
      · rename_i hsome
        obtain ⟨inf, hinf⟩ := Option.isSome_iff_exists.1 hsome
        simp only [Option.map_eq_some_iff] at h
        obtain ⟨l, hl, rfl⟩ := h
        obtain ⟨r', hr1, hr2⟩ := afill_good parts parts' zero l z.cells hl hz3 hn hv
        refine ⟨.agg r', ?_, VR.aggL (by simpa using hr2)⟩
        simp only [Instr.build, Sem.run_bind, tzero_run hz1, run_underlying hu, Result.andThen_ok, run_sizeOf w hinf, hr1, Sem.run_pure]
      · simp at h
    · simp at h

/-! ### New rows -/

/-- n elements, each the zero value. -/
def zrow (z : List Value) (n : Nat) : List Value := (List.replicate n z).flatten

theorem zrow_eq (z : List Value) (n : Nat) : (List.range (n * z.length)).map (fun i => z.getD (i % z.length) undef) = zrow z n := by
  induction n with
  | zero => simp [zrow]
  | succ n ih =>
    have h1 : zrow z (n + 1) = zrow z n ++ z := by simp [zrow, List.replicate_succ']
    rw [h1, ← ih, Nat.succ_mul, List.range_add, List.map_append]
    congr 1
    apply List.ext_getElem?
    intro i
    simp only [List.map_map, List.getElem?_map]
    by_cases hi : i < z.length
    · simp [hi, Nat.add_mod, Nat.mod_eq_of_lt hi]
    · simp [hi, List.getElem?_eq_none (Nat.le_of_not_lt hi)]

theorem zrow_one (v : Value) (n : Nat) : zrow [v] n = List.replicate n v := by
  induction n with
  | zero => rfl
  | succ n ih => simp [zrow, List.replicate_succ] at ih ⊢

theorem range_row (z : Array Value) (n : Nat) : ((Array.range (n * z.size)).map (fun i => z[i % z.size]!)).toList = zrow z.toList n := by
  rw [← zrow_eq]
  simp only [Array.toList_map, Array.toList_range, Array.length_toList]
  apply List.map_congr_left
  intro i hi
  have hpos : 0 < z.size := by
    rcases Nat.eq_zero_or_pos z.size with h | h
    · rw [h] at hi; simp at hi
    · exact h
  have hlt : i % z.size < z.size := Nat.mod_lt _ hpos
  simp [getElem!_pos, hlt, List.getD]

def elemOf? (P : Program) (t : TypeId) : Option TypeId :=
  match P.underlying t with
  | some (.slice e) => some e
  | _ => none

theorem elemOf?_some {t e : TypeId} (h : elemOf? P t = some e) : P.underlying t = some (.slice e) := by
  unfold elemOf? at h
  split at h
  · simp only [Option.some.injEq] at h; subst h; assumption
  · simp at h

def abuildSlice (P : Program) (t : TypeId) (len : Nat) (parts : List (Nat × Value)) (H : AH) (K : Value → AH → Prop) : Prop :=
  match elemOf? P t with
  | none => False
  | some elem =>
    match azero P elem with
    | none => False
    | some z =>
      z.length = P.cellsOf elem ∧ len * P.cellsOf elem ≤ 2 ^ 24 ∧
      match afill (fun i => some (i * P.cellsOf elem, P.cellsOf elem)) (zrow z len) parts with
      | some l => l.all okCell = true ∧ zK l (.slice (some ⟨H.next, 0, some 0⟩) len len) (FS l len) H K
      | none => False

theorem alloc_cells {cs cs' : List Value} {elem : TypeId} (extra : List Value) (hS : Sim B ρ H w) (hv : LR ρ cs cs') (hok : cs.all okCell = true) :
    ∃ ρ', Sim B ρ' (H.alloc (.cells cs true)) (w.alloc (.cells (cs' ++ extra).toArray elem)) ∧ RenLe ρ ρ' ∧ ρ' H.next = some ⟨w.heap.size, 0, (cs' ++ extra).length⟩ ∧
      Below B w (w.alloc (.cells (cs' ++ extra).toArray elem)) := by
  obtain ⟨h1, h2, h3, h4⟩ := hS.alloc (o := .cells cs true) (ob := .cells (cs' ++ extra).toArray elem) (r := ⟨w.heap.size, 0, (cs' ++ extra).length⟩) rfl (fun ρ' hρ =>
    CellsAt.new (B := B) (w := w) (hv.mono hρ) (List.all_eq_true.1 hok) hS.base elem extra)
  exact ⟨_, h1, h2, h3, h4⟩

theorem abuildSlice_good {t : TypeId} {len : Nat} {parts parts' : List (Nat × Value)} (hS : Sim B ρ H w) (h : abuildSlice P t len parts H K) (hn : parts.map (·.1) = parts'.map (·.1))
    (hv : LR ρ (parts.map (·.2)) (parts'.map (·.2))) :
    ∃ v v' H' ρ' w', (Instr.buildSlice t len parts'.toArray).run P w = .ok v' w' ∧ VR ρ' v v' ∧ K v H' ∧ Sim B ρ' H' w' ∧ RenLe ρ ρ' ∧ Below B w w' := by
  unfold abuildSlice at h
  cases he : elemOf? P t with
  | none => simp [he] at h
  | some elem =>
    have hu := elemOf?_some he
    simp only [he] at h
    cases hz : azero P elem with
    | none => simp [hz] at h
    | some zl =>
      obtain ⟨z, hz1, hz2, hz3⟩ := azero_some (ρ := ρ) hz
      simp only [hz] at h
      obtain ⟨hlen, hle, h⟩ := h
      split at h
      · rename_i l hl
        obtain ⟨hok, hK⟩ := h
        obtain ⟨i, hi, hzi⟩ := Option.bind_eq_some_iff.1 hz1
        have hzs : z.cells.size = P.cellsOf elem := by rw [← hlen, ← hz2]; simp
        -- the row of zeros
        have hz0 : LR ρ (zrow zl len) (zrow zl len) := by
          rw [hz2] at hz3
          unfold zrow
          induction len with
          | zero => trivial
          | succ n ih => simp only [List.replicate_succ, List.flatten_cons]; exact hz3.append (by
              have : ∀ m, LR ρ (List.replicate m zl).flatten (List.replicate m zl).flatten := by
                intro m
                induction m with
                | zero => trivial
                | succ m ih => simp only [List.replicate_succ, List.flatten_cons]; exact hz3.append ih
              exact this n)
        have hrow : ∃ c : Array Value, ((do let zero ← (if len * P.cellsOf elem = 0 then Pure.pure #[] else do Pure.pure (← zeroValue elem).cells); Pure.pure ((Array.range (len * P.cellsOf elem)).map (fun i => zero[i % zero.size]!)) : Sem (Array Value)).run P w) = .ok c w ∧ c.toList = zrow zl len := by
          by_cases h0 : len * P.cellsOf elem = 0
          · refine ⟨#[], by simp [h0], ?_⟩
            rw [← zrow_eq, hlen, h0]; rfl
          · refine ⟨(Array.range (len * P.cellsOf elem)).map (fun i => z.cells[i % z.cells.size]!), ?_, ?_⟩
            · simp only [Sem.run_bind, Sem.run_ite, if_neg h0, tzero_run hz1, Result.andThen_ok, Sem.run_pure]
            · rw [← hzs, range_row, hz2]
        obtain ⟨c, hc1, hc2⟩ := hrow
        obtain ⟨r', hr1, hr2⟩ := afill_good parts parts' _ l c hl (by rw [hc2]; exact hz0) hn hv
        obtain ⟨ρ', h1, h2, h3, h4⟩ := alloc_cells (elem := elem) [] hS hr2 hok
        simp only [List.append_nil, Array.toArray_toList] at h1 h3 h4
        have hrun : (Instr.buildSlice t len parts'.toArray).run P w = .ok (.slice (some ⟨w.heap.size, 0, none⟩) len len) (w.alloc (.cells r' elem)) := ?_
        · rcases hK with hK | ⟨hn, hK⟩
          · exact ⟨_, .slice (some ⟨w.heap.size, 0, none⟩) len len, _, ρ', _, hrun, .slEx h3, hK, h1, h2, h4⟩
          · obtain ⟨ρ2, k1, k2, k3⟩ := hS.allocZ h2 h1 h3 hn
            exact ⟨_, .slice (some ⟨w.heap.size, 0, none⟩) len len, _, ρ2, _, hrun, VR.fs (Nat.le_refl _) k3, hK, k1, k2, h4⟩
        unfold Instr.buildSlice
        simp only [Sem.run_bind, run_underlying hu, Result.andThen_ok, run_sizeOf w hi, Sem.run_ite, if_neg (Nat.not_lt.2 hle), Sem.run_pure] at hc1 ⊢
        by_cases h0 : len * P.cellsOf elem = 0
        · simp only [h0, if_true, Result.andThen_ok] at hc1 ⊢
          simp only [Result.ok.injEq, and_true] at hc1
          rw [hc1, hr1]
          simp [newRow]
        · simp only [if_neg h0, tzero_run hz1, Result.andThen_ok] at hc1 ⊢
          simp only [Result.ok.injEq, and_true] at hc1
          rw [hc1, hr1]
          simp [newRow]
      · exact h.elim

def amakeSlice (P : Program) (t : TypeId) (l c : Value) (H : AH) (K : Value → AH → Prop) : Prop :=
  match elemOf? P t, l, c with
  | some elem, .int _ l, .int _ c =>
    match azero P elem with
    | none => False
    | some z =>
      z.length = P.cellsOf elem ∧ z.all okCell = true ∧ 0 ≤ l ∧ l ≤ c ∧ c ≤ 9223372036854775807 ∧ P.bytesOf elem * c ≤ 281474976710656 ∧
      K (.slice (some ⟨H.next, 0, some 0⟩) l.toNat c.toNat) (H.alloc (.cells (zrow z c.toNat) true))
  | _, _, _ => False

theorem LR.zrow {z z' : List Value} (h : LR ρ z z') : ∀ n, LR ρ (zrow z n) (zrow z' n)
  | 0 => trivial
  | n + 1 => by
    show LR ρ (List.replicate (n + 1) z).flatten (List.replicate (n + 1) z').flatten
    simp only [List.replicate_succ, List.flatten_cons]
    exact h.append (LR.zrow h n)

theorem zrow_all {z : List Value} {p : Value → Bool} (h : z.all p = true) : ∀ n, (zrow z n).all p = true
  | 0 => rfl
  | n + 1 => by
    show (List.replicate (n + 1) z).flatten.all p = true
    simp only [List.replicate_succ, List.flatten_cons, List.all_append, h, Bool.true_and]
    exact zrow_all h n

theorem wrap_i64 {x : Int} (h1 : -9223372036854775808 ≤ x) (h2 : x ≤ 9223372036854775807) : IntKind.i64.wrap x = x := by
  rw [IntWalk.i64_in _ (by omega)]

theorem amakeSlice_good {t : TypeId} {l l' c c' : Value} (hS : Sim B ρ H w) (hl : VR ρ l l') (hc : VR ρ c c') (h : amakeSlice P t l c H K) :
    ∃ v v' H' ρ' w', (Instr.makeSlice t l' c').run P w = .ok v' w' ∧ VR ρ' v v' ∧ K v H' ∧ Sim B ρ' H' w' ∧ RenLe ρ ρ' ∧ Below B w w' := by
  unfold amakeSlice at h
  split at h
  · rename_i elem k1 l k2 c he
    have hu := elemOf?_some he
    cases hl; cases hc
    cases hz : azero P elem with
    | none => simp [hz] at h
    | some zl =>
      obtain ⟨z, hz1, hz2, hz3⟩ := azero_some (ρ := ρ) hz
      simp only [hz] at h
      obtain ⟨hlen, hok, h0, hlc, hc1, hc2, hK⟩ := h
      obtain ⟨i, hi, hzi⟩ := Option.bind_eq_some_iff.1 hz1
      have hzs : z.cells.size = P.cellsOf elem := by rw [← hlen, ← hz2]; simp
      have hib : i.bytes = P.bytesOf elem := by simp [Program.bytesOf, hi]
      obtain ⟨ρ', h1, h2, h3, h4⟩ := alloc_cells (elem := elem) [] hS (LR.zrow hz3 c.toNat) (zrow_all hok _)
      simp only [List.append_nil] at h1 h3 h4
      refine ⟨_, .slice (some ⟨w.heap.size, 0, none⟩) l.toNat c.toNat, _, ρ', _, ?_, .slEx h3, hK, h1, h2, h4⟩
      have w1 : IntKind.i64.wrap l = l := wrap_i64 (by omega) (by omega)
      have w2 : IntKind.i64.wrap c = c := wrap_i64 (by omega) (by omega)
      unfold Instr.makeSlice
      simp only [Sem.run_bind, run_underlying hu, Result.andThen_ok, asInt, asIntOf, Sem.run_pure, run_typeInfo w hi, w1, w2, hib]
      have h48 : (2 : Int) ^ 48 = 281474976710656 := by decide
      have e : (decide (c < 0) || decide ((P.bytesOf elem : Int) * c > 2 ^ 48) || decide (l < 0) || decide (l > c)) = false := by
        simp only [Bool.or_eq_false_iff, decide_eq_false_iff_not]
        exact ⟨⟨⟨by omega, by omega⟩, by omega⟩, by omega⟩
      simp only [e, Bool.false_eq_true, if_false, Sem.run_bind, Sem.run_pure, Sem.run_ite, Result.andThen_ok, run_askRoom, run_sizeOf w hi]
      by_cases hn : c.toNat * P.cellsOf elem = 0
      · simp only [hn, if_true, Result.andThen_ok]
        have : zrow z.cells.toList c.toNat = [] := by rw [← zrow_eq, hz2, hlen, hn]; rfl
        rw [this]
        have e0 : ∀ f : Nat → Value, Array.map f (Array.range 0) = #[] := fun f => by simp
        simp [newRow, e0]
      · simp only [if_neg hn, tzero_run hz1, Result.andThen_ok]
        have : (Array.range (c.toNat * P.cellsOf elem)).map (fun i => z.cells[i % z.cells.size]!) = (zrow z.cells.toList c.toNat).toArray := by
          apply Array.ext'
          rw [← hzs, range_row]
        rw [this]
        simp [newRow]
  · exact h.elim

end
end Go.Proofs.YtmknkpcdfkpobaaA
