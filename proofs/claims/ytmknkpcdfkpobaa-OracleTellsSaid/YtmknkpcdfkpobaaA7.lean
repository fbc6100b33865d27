/- append, copy, clear, len, min and max. -/
import Derived.Test.YtmknkpcdfkpobaaA6
set_option linter.unusedVariables false
set_option linter.unusedSimpArgs false
namespace Go.Proofs.YtmknkpcdfkpobaaA
open Go.RowKit

section
variable {P : Program} {B : Nat} {ρ : Ren} {H : AH} {w : World} {K : Value → AH → Prop}

def alen : Value → Option Nat
  | .slice _ n _ => some n
  | .string s => some s.size
  | .func (.methodOf n _) _ _ => some n
  | _ => none

/-- The first n elements' cells of a slice or a string. -/
def acells (H : AH) (size n : Nat) : Value → Option (List Value)
  | .slice none 0 0 => if n = 0 then some [] else none
  | .slice (some ⟨b, o, _⟩) len _ =>
    if n * size = 0 then some []
    else if len < n then none
    else match H.blk b with
      | some (.cells cs _) => if o + n * size ≤ cs.length then some ((cs.drop o).take (n * size)) else none
      | _ => none
  | .func (.methodOf len _) cs _ => if n ≤ len ∧ n * size ≤ cs.toList.length then some (cs.toList.take (n * size)) else none
  | .string s => if size = 1 ∧ n ≤ s.size then some (((s.extract 0 n).data.map fun b => Value.int .u8 b.toNat).toList) else none
  | _ => none

theorem alen_run {x x' : Value} {n : Nat} (h : alen x = some n) (hx : VR ρ x x') (w : World) : (Builtin.lenOf x').run P w = .ok n w := by
  unfold alen at h
  split at h <;> first | (simp at h; done) | skip
  all_goals
    simp only [Option.some.injEq] at h; subst h
    cases hx <;> first | rfl | (rename_i hm _ _ _ _; cases hm)

theorem acells_run {x x' : Value} {size n : Nat} {l : List Value} (h : acells H size n x = some l) (hS : Sim B ρ H w) (hx : VR ρ x x') :
    ∃ l' : List Value, (∀ w', w'.heap = w.heap → (Builtin.firstCells size n x').run P w' = .ok l'.toArray w') ∧ LR ρ l l' ∧ l.all okCell = true ∧ l.length = n * size := by
  unfold acells at h
  split at h
  · split at h
    · rename_i h0; subst h0
      simp only [Option.some.injEq] at h; subst h
      cases hx
      exact ⟨[], fun _ _ => rfl, trivial, rfl, by simp⟩
    · simp at h
  · rename_i b o sp len cap
    split at h
    · rename_i h0
      simp only [Option.some.injEq] at h; subst h
      have : ∀ (a : Addr) (w' : World), (loadCells a (n * size)).run P w' = .ok #[] w' := fun a w' => by rw [h0]; rfl
      refine ⟨[], fun w' _ => ?_, trivial, rfl, by simp [h0]⟩
      cases hx <;> exact this _ w'
    · rename_i hne
      split at h
      · simp at h
      · rename_i hlen
        split at h
        · rename_i cs rw hb
          split at h
          · rename_i hle
            simp only [Option.some.injEq] at h; subst h
            obtain ⟨r, hr, hat⟩ := hS.get b _ hb
            obtain ⟨l', h1, h2, h3, h4⟩ := CellsAt.reads hat o (n * size) hle
            refine ⟨l', fun w' hw' => ?_, h2, List.all_eq_true.2 h3, by simp; omega⟩
            have h4' : ∀ j v', l'[j]? = some v' → w'.cell? ((⟨r.blk, r.sh + o, none⟩ : Addr).add j) = some v' := fun j v' hj => by
              have := h4 j v' hj
              unfold World.cell? at this ⊢
              rw [hw']; exact this
            have hld := run_loadCells_list (P := P) w' ⟨r.blk, r.sh + o, none⟩ l' h4'
            rw [h1] at hld
            cases hx with
            | slEx h' => rw [hr] at h'; cases h'; exact hld
            | slZ => exact absurd (by rw [Nat.eq_zero_of_le_zero (Nat.le_of_not_lt hlen), Nat.zero_mul]) hne
          · simp at h
        · simp at h
  · rename_i len nm cs c0
    split at h
    · rename_i hc
      obtain ⟨hc1, hc2⟩ := hc
      simp only [Option.some.injEq] at h; subst h
      cases hx with
      | func _ hm => cases hm
      | frzS hc' hr =>
        rename_i c' b o
        obtain ⟨l', h1, h2, h3, h4⟩ := hS.zreads (n * size) cs.toList o hr hc2
        refine ⟨l', fun w' hw' => ?_, h2, List.all_eq_true.2 h3, by simp only [List.length_take]; omega⟩
        have h4' : ∀ j v', l'[j]? = some v' → w'.cell? ((⟨b, o, none⟩ : Addr).add j) = some v' := fun j v' hj => by
          have := h4 j v' hj
          unfold World.cell? at this ⊢
          rw [hw']; exact this
        have hld := run_loadCells_list (P := P) w' ⟨b, o, none⟩ l' h4'
        rw [h1] at hld
        exact hld
      | frzN hr =>
        have hn0 : n = 0 := by omega
        subst hn0
        exact ⟨[], fun w' _ => rfl, by rw [hr]; simp; trivial, by rw [hr]; simp, by rw [hr]; simp⟩
      | frzZ hr =>
        have hn0 : n = 0 := by omega
        subst hn0
        have : ∀ (a : Addr) (w' : World), (loadCells a (0 * size)).run P w' = .ok #[] w' := fun a w' => by rw [Nat.zero_mul]; rfl
        exact ⟨[], fun w' _ => this _ w', by rw [hr]; simp; trivial, by rw [hr]; simp, by rw [hr]; simp⟩
    · simp at h
  · rename_i s
    split at h
    · rename_i hc
      obtain ⟨rfl, hc⟩ := hc
      simp only [Option.some.injEq] at h; subst h
      cases hx
      have hint : ∀ v ∈ ((s.extract 0 n).data.map fun b => Value.int .u8 b.toNat).toList, ∃ z, v = Value.int .u8 z := by
        intro v hv
        rw [Array.toList_map, List.mem_map] at hv
        obtain ⟨b, _, rfl⟩ := hv
        exact ⟨_, rfl⟩
      refine ⟨((s.extract 0 n).data.map fun b => Value.int .u8 b.toNat).toList, fun w' _ => by simp only [Builtin.firstCells, Sem.run_pure, Array.toArray_toList], ?_, ?_, ?_⟩
      · exact .of_get rfl fun i v hv => ⟨v, hv, by obtain ⟨z, rfl⟩ := hint v (List.mem_of_getElem? hv); exact .int _ _⟩
      · rw [List.all_eq_true]; intro v hv; obtain ⟨z, rfl⟩ := hint v hv; rfl
      · simp; omega
    · simp at h
  · simp at h

theorem nextslicecap_le {need c : Nat} (h : c < need) : Builtin.nextslicecap need c ≤ 2 * need := by
  unfold Builtin.nextslicecap
  split
  · omega
  · split
    · omega
    · simp only [Builtin.growBy]
      repeat' split
      all_goals omega

/-- What append makes: a list of cells, in a new block, whatever its capacity. -/
def agrow (P : Program) (elem : TypeId) (len n : Nat) (s : Value) (new : List Value) (H : AH) (K : Value → AH → Prop) : Prop :=
  match acells H (P.cellsOf elem) len s, azero P elem with
  | some old, some z =>
    z.length = P.cellsOf elem ∧ z.all okCell = true ∧ P.bytesOf elem ≠ 0 ∧ (len + n) * P.bytesOf elem ≤ 140737488355328 ∧
    ∀ c, len + n ≤ c → c ≤ 9223372036854775807 → K (.slice (some ⟨H.next, 0, some 0⟩) (len + n) c) (H.alloc (.cells (old ++ new ++ zrow z (c - (len + n))) true))
  | _, _ => False

/-- append of so many zeros, where it makes a new row. -/
def aappz (P : Program) (o : Option TypeId) (s x : Value) (H : AH) (K : Value → AH → Prop) : Prop :=
  match o, x, s with
  | some elem, .int .i64 n, .slice (some ⟨_, _, some 0⟩) len cap =>
    match azero P elem with
    | some z => 0 ≤ n ∧ (P.info? elem).isSome = true ∧ cap < len + n.toNat ∧ agrow P elem len n.toNat s (zrow z n.toNat) H K
    | none => False
  | _, _, _ => False

def aappend (P : Program) (argTypes : Array TypeId) (s x : Value) (H : AH) (K : Value → AH → Prop) : Prop :=
  match (argTypes[0]?).bind (elemOf? P), (argTypes[1]?).bind P.underlying, alen x with
  | o, some (.int _), _ => aappz P o s x H K
  | some elem, some _, some n =>
    (P.info? elem).isSome = true ∧
    match acells H (P.cellsOf elem) n x with
    | none => False
    | some new =>
      match s with
      | .slice none 0 0 => if n = 0 then K (.slice none 0 0) H else agrow P elem 0 n s new H K
      | .slice (some ⟨b, o, some 0⟩) len cap =>
        if n = 0 then len ≤ cap ∧ K s H
        else if len + n ≤ cap then
          match H.blk b with
          | some (.cells cs true) => o + len * P.cellsOf elem + new.length ≤ cs.length ∧ K (.slice (some ⟨b, o, some 0⟩) (len + n) cap) (H.set b (.cells (splice cs (o + len * P.cellsOf elem) new) true))
          | _ => False
        else agrow P elem len n s new H K
      | _ => False
  | _, _, _ => False

/-- The model's append, where it makes a new row. -/
theorem append_grow {argTypes : Array TypeId} {T xT elem ty : TypeId} {d : TypeDesc} {inf : TypeInfo} {z : Value} {base : Option Addr} {len cap n : Nat} {x : Value} {old new : List Value}
    (h0 : argTypes[0]? = some T) (h1 : argTypes[1]? = some xT) (hu : P.underlying T = some (.slice elem)) (hd : P.underlying xT = some d) (hni : ∀ k, d ≠ .int k) (hinf : P.info? elem = some inf)
    (hz : tzero P elem = some z) (hn : ∀ w, (Builtin.lenOf x).run P w = .ok n w) (hgt : cap < len + n) (hb0 : P.bytesOf elem ≠ 0) (hb : (len + n) * P.bytesOf elem ≤ 140737488355328)
    (hold : ∀ w', w'.heap = w.heap → (Builtin.firstCells (P.cellsOf elem) len (.slice base len cap)).run P w' = .ok old.toArray w')
    (hnew : ∀ w', w'.heap = w.heap → (Builtin.firstCells (P.cellsOf elem) n x).run P w' = .ok new.toArray w') :
    ∃ nc : Nat, len + n ≤ nc ∧ nc ≤ 9223372036854775807 ∧ (Builtin.append_ argTypes ty #[.slice base len cap, x]).run P w =
      .ok (.slice (some ⟨w.heap.size, 0, none⟩) (len + n) nc) (w.drew.alloc (.cells (old ++ new ++ (zrow z.cells.toList (nc - (len + n)))).toArray elem)) := by
  have hib : inf.bytes = P.bytesOf elem := by simp [Program.bytesOf, hinf]
  have hcap : ¬ Builtin.nextslicecap (len + n) cap * P.bytesOf elem > 2 ^ 48 := by
    have h := nextslicecap_le hgt
    have h' := Nat.mul_le_mul_right (P.bytesOf elem) h
    have h48 : (2 : Nat) ^ 48 = 281474976710656 := by decide
    rw [Nat.mul_assoc] at h'
    omega
  refine ⟨len + n + w.tape w.drawn (.appendCap (len + n) cap elem) % (2 ^ 63 - (len + n)), by omega, ?_, ?_⟩
  · have hne : len + n ≤ 140737488355328 := Nat.le_trans (Nat.le_mul_of_pos_right _ (Nat.pos_of_ne_zero hb0)) hb
    have h63 : (2 : Nat) ^ 63 = 9223372036854775808 := by decide
    have := Nat.mod_lt (w.tape w.drawn (.appendCap (len + n) cap elem)) (show 0 < 2 ^ 63 - (len + n) by omega)
    omega
  have hzi : ((underlying xT).run P w) = .ok d w := run_underlying hd w
  have hdi : (d matches .int _) = false := by cases d <;> first | rfl | exact absurd rfl (hni _)
  unfold Builtin.append_
  simp only [h0, h1, List.getElem?_toArray, List.getElem?_cons_zero, List.getElem?_cons_succ, Sem.run_bind, run_underlying hu, Result.andThen_ok, run_sizeOf _ hinf, hzi]
  have hz0 : ∀ m, zrow z.cells.toList m = (Builtin.zeroCells z.cells m).toList := fun m => by
    rw [Builtin.zeroCells, range_row]
  have hfalse : ¬ (((len + n : Nat) : Int) > IntKind.i64.max ∧ (False ∨ inf.bytes = 0)) := by
    rintro ⟨_, h | h⟩
    · exact h
    · rw [hib] at h; exact hb0 h
  have hq : Question.forced (.appendCap (len + n) cap elem) = false := rfl
  simp only [Sem.run_pure, Result.andThen_ok, Bool.false_eq_true, if_false, Sem.run_bind, hn, Sem.run_ite, if_neg (Nat.not_le.2 hgt), run_typeInfo _ hinf]
  rw [if_neg hfalse]
  simp only [hib, if_neg hcap, run_choose, hq, Bool.false_eq_true, if_false, Question.cut, Result.andThen_ok, run_askRoom, World.drew_eq, Bool.not_false, if_true, hold w.drew rfl, hnew w.drew rfl, tzero_run hz, newRow, Sem.run_bind, run_newObj, Sem.run_pure, World.alloc_eq]
  congr 3
  apply Array.ext'
  simp [hz0]

/-- The model's append of zeros, where it makes a new row. -/
theorem append_growZ {argTypes : Array TypeId} {T xT elem ty : TypeId} {k : IntKind} {inf : TypeInfo} {z : Value} {base : Option Addr} {len cap : Nat} {n : Int} {old : List Value}
    (h0 : argTypes[0]? = some T) (h1 : argTypes[1]? = some xT) (hu : P.underlying T = some (.slice elem)) (hd : P.underlying xT = some (.int k)) (hinf : P.info? elem = some inf)
    (hz : tzero P elem = some z) (hzl : z.cells.toList.length = P.cellsOf elem) (hn : 0 ≤ n) (hgt : cap < len + n.toNat) (hb0 : P.bytesOf elem ≠ 0) (hb : (len + n.toNat) * P.bytesOf elem ≤ 140737488355328)
    (hold : ∀ w', w'.heap = w.heap → (Builtin.firstCells (P.cellsOf elem) len (.slice base len cap)).run P w' = .ok old.toArray w') :
    ∃ nc : Nat, len + n.toNat ≤ nc ∧ nc ≤ 9223372036854775807 ∧ (Builtin.append_ argTypes ty #[.slice base len cap, .int .i64 n]).run P w =
      .ok (.slice (some ⟨w.heap.size, 0, none⟩) (len + n.toNat) nc) (w.drew.alloc (.cells (old ++ zrow z.cells.toList n.toNat ++ (zrow z.cells.toList (nc - (len + n.toNat)))).toArray elem)) := by
  have hib : inf.bytes = P.bytesOf elem := by simp [Program.bytesOf, hinf]
  have hcap : ¬ Builtin.nextslicecap (len + n.toNat) cap * P.bytesOf elem > 2 ^ 48 := by
    have h := nextslicecap_le hgt
    have h' := Nat.mul_le_mul_right (P.bytesOf elem) h
    have h48 : (2 : Nat) ^ 48 = 281474976710656 := by decide
    rw [Nat.mul_assoc] at h'
    omega
  have hne : len + n.toNat ≤ 140737488355328 := Nat.le_trans (Nat.le_mul_of_pos_right _ (Nat.pos_of_ne_zero hb0)) hb
  have hw : IntKind.i64.wrap n = n := by
    have e : IntKind.i64.wrap n = n := by
      refine wrap_i64 ?_ ?_ <;> omega
    exact e
  have hnb : n.toNat * P.bytesOf elem ≤ 140737488355328 := Nat.le_trans (Nat.mul_le_mul_right _ (Nat.le_add_left _ _)) hb
  refine ⟨len + n.toNat + w.tape w.drawn (.appendCap (len + n.toNat) cap elem) % (2 ^ 63 - (len + n.toNat)), by omega, ?_, ?_⟩
  · have h63 : (2 : Nat) ^ 63 = 9223372036854775808 := by decide
    have := Nat.mod_lt (w.tape w.drawn (.appendCap (len + n.toNat) cap elem)) (show 0 < 2 ^ 63 - (len + n.toNat) by omega)
    omega
  have hzi : ((underlying xT).run P w) = .ok (.int k) w := run_underlying hd w
  unfold Builtin.append_
  simp only [h0, h1, List.getElem?_toArray, List.getElem?_cons_zero, List.getElem?_cons_succ, Sem.run_bind, run_underlying hu, Result.andThen_ok, run_sizeOf _ hinf, hzi]
  have hz0 : ∀ m, zrow z.cells.toList m = (Builtin.zeroCells z.cells m).toList := fun m => by
    rw [Builtin.zeroCells, range_row]
  have hfalse : ¬ (((len + n.toNat : Nat) : Int) > IntKind.i64.max ∧ (True ∨ inf.bytes = 0)) := by
    rintro ⟨h, _⟩
    have : IntKind.i64.max = 9223372036854775807 := by decide
    rw [this] at h; omega
  have hl0 : ¬ n < 0 := by omega
  have hl1 : ¬ (n * (inf.bytes : Int) > 2 ^ 48) := by
    rw [hib]
    have e : n = (n.toNat : Int) := by omega
    rw [e]
    have h48 : (2 : Int) ^ 48 = 281474976710656 := by decide
    have h1 : ((n.toNat * P.bytesOf elem : Nat) : Int) ≤ 140737488355328 := Int.ofNat_le.2 hnb
    rw [Int.natCast_mul] at h1
    rw [h48]
    exact Int.not_lt.2 (Int.le_trans h1 (by decide))
  have happ : (if n.toNat * P.cellsOf elem = 0 then Result.ok #[] w.drew else Result.ok (Builtin.zeroCells z.cells n.toNat) w.drew : Result (Array Value)) = .ok (zrow z.cells.toList n.toNat).toArray w.drew := by
    split
    · rename_i h0
      have : zrow z.cells.toList n.toNat = [] := List.length_eq_zero_iff.1 (by rw [← zrow_eq, List.length_map, List.length_range, hzl]; exact h0)
      rw [this]
    · rw [hz0]
  have hq : Question.forced (.appendCap (len + n.toNat) cap elem) = false := rfl
  have hai : (asInt (.int .i64 n)).run P w = .ok n w := rfl
  simp only [Sem.run_pure, Result.andThen_ok, if_true, Sem.run_bind, hai, hw, Sem.run_ite, if_neg hl0, run_typeInfo _ hinf]
  rw [if_neg hl1]
  simp only [Sem.run_pure, Result.andThen_ok, Sem.run_bind, Sem.run_ite, if_neg (Nat.not_le.2 hgt), run_typeInfo _ hinf]
  rw [if_neg hfalse]
  simp only [hib, if_neg hcap, run_choose, hq, Bool.false_eq_true, if_false, Question.cut, Result.andThen_ok, run_askRoom, World.drew_eq, Bool.not_true, hold w.drew rfl, tzero_run hz, happ, newRow, Sem.run_bind, run_newObj, Sem.run_pure, World.alloc_eq]
  congr 3
  apply Array.ext'
  simp [hz0]

/-- The model's append, where there is room. -/
theorem append_room {argTypes : Array TypeId} {T xT elem ty : TypeId} {d : TypeDesc} {inf : TypeInfo} {base : Option Addr} {len cap n : Nat} {x : Value} {new : List Value}
    (h0 : argTypes[0]? = some T) (h1 : argTypes[1]? = some xT) (hu : P.underlying T = some (.slice elem)) (hd : P.underlying xT = some d) (hni : ∀ k, d ≠ .int k) (hinf : P.info? elem = some inf)
    (hn : ∀ w, (Builtin.lenOf x).run P w = .ok n w) (hle : len + n ≤ cap)
    (hnew : (Builtin.firstCells (P.cellsOf elem) n x).run P w = .ok new.toArray w) :
    (Builtin.append_ argTypes ty #[.slice base len cap, x]).run P w =
      (match base with | some a => (storeCells (a.add (len * P.cellsOf elem)) new).run P w | none => .ok () w).andThen fun _ w' => .ok (.slice base (len + n) cap) w' := by
  have hzi : ((underlying xT).run P w) = .ok d w := run_underlying hd w
  have hdi : (d matches .int _) = false := by cases d <;> first | rfl | exact absurd rfl (hni _)
  unfold Builtin.append_
  simp only [h0, h1, List.getElem?_toArray, List.getElem?_cons_zero, List.getElem?_cons_succ, Sem.run_bind, run_underlying hu, Result.andThen_ok, run_sizeOf _ hinf, hzi]
  simp only [Sem.run_pure, Result.andThen_ok, Bool.false_eq_true, if_false, Sem.run_bind, hn, Sem.run_ite, if_pos hle, Bool.not_false, if_true, hnew]
  cases base <;> simp

end
end Go.Proofs.YtmknkpcdfkpobaaA
