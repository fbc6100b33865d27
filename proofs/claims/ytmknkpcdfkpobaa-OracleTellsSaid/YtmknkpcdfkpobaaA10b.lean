/- Structs and arrays of plain cells, compared. -/
import Derived.Test.YtmknkpcdfkpobaaA9
import Derived.ChangeKeysEq
set_option linter.unusedVariables false
set_option linter.unusedSimpArgs false
namespace Go.Proofs.YtmknkpcdfkpobaaA
open Go.RowKit

inductive LK where
  | int (k : IntKind)
  | bool | str

def LK.ok : LK → Value → Bool
  | .int k, .int k' _ => k == k'
  | .bool, .bool _ => true
  | .str, .string _ => true
  | _, _ => false

def sEq : Value → Value → Bool
  | .int _ a, .int _ b => decide (a = b)
  | .bool a, .bool b => a == b
  | .string a, .string b => a.toList == b.toList
  | _, _ => false

def eqC : List Value → List Value → Bool
  | [], [] => true
  | a :: l, b :: m => sEq a b && eqC l m
  | _, _ => false

def okL : List LK → List Value → Bool
  | [], [] => true
  | k :: ks, v :: l => k.ok v && okL ks l
  | _, _ => false

theorem okL_length : ∀ {ks : List LK} {l : List Value}, okL ks l = true → l.length = ks.length
  | [], [], _ => rfl
  | _ :: ks, _ :: l, h => by simp only [okL, Bool.and_eq_true] at h; simp [okL_length h.2]
  | [], _ :: _, h => by cases h
  | _ :: _, [], h => by cases h

theorem okL_append : ∀ {ks ks' : List LK} {l : List Value}, okL (ks ++ ks') l = true → okL ks (l.take ks.length) = true ∧ okL ks' (l.drop ks.length) = true
  | [], ks', l, h => ⟨by simp [okL], by simpa using h⟩
  | k :: ks, ks', v :: l, h => by
    simp only [List.cons_append, okL, Bool.and_eq_true] at h
    obtain ⟨h1, h2⟩ := okL_append h.2
    exact ⟨by simp only [List.length_cons, List.take_succ_cons, okL, Bool.and_eq_true]; exact ⟨h.1, h1⟩, by simpa using h2⟩
  | k :: ks, ks', [], h => by cases h

theorem eqC_append : ∀ {a b a' b' : List Value}, a.length = a'.length → eqC (a ++ b) (a' ++ b') = (eqC a a' && eqC b b')
  | [], b, [], b', _ => by simp [eqC]
  | x :: a, b, y :: a', b', h => by
    simp only [List.cons_append, eqC]
    rw [eqC_append (by simpa using h), Bool.and_assoc]
  | [], _, _ :: _, _, h => by simp at h
  | _ :: _, _, [], _, h => by simp at h

def kFields (P : Program) (kof : TypeId → Option (List LK)) : Nat → List Field → Option (List LK)
  | _, [] => some []
  | off, f :: fs =>
    if f.offset = off ∧ f.name ≠ "_" then
      match kof f.type, kFields P kof (off + P.cellsOf f.type) fs with
      | some a, some l => if a.length = P.cellsOf f.type ∧ a.length ≠ 0 then some (a ++ l) else none
      | _, _ => none
    else none

/-- The cells of a type that can be compared. -/
def kindsOf (P : Program) : Nat → TypeId → Option (List LK)
  | 0, _ => none
  | d + 1, t =>
    match P.underlying t with
    | some .bool => some [.bool]
    | some (.int k) => some [.int k]
    | some .string => some [.str]
    | some (.array n e) =>
      match kindsOf P d e with
      | some ks => if ks.length = P.cellsOf e ∧ (P.info? e).isSome = true ∧ ks.length ≠ 0 then some (List.replicate n ks).flatten else none
      | none => none
    | some (.struct fs) => if P.stoodInHeld t = false then kFields P (kindsOf P d) 0 fs.toList else none
    | _ => none

/-- A value of a type, of these cells. -/
def valIs (P : Program) (t : TypeId) (v : Value) (l : List Value) : Prop :=
  match P.underlying t with
  | some (.array _ _) | some (.struct _) => ∃ c, v = .agg c ∧ c.toList = l
  | _ => l = [v]

section
variable {P : Program}

def EqT (P : Program) (dd : Nat) (t : TypeId) (ks : List LK) : Prop :=
  ∀ (w : World) (a b : Value) (la lb : List Value), valIs P t a la → valIs P t b lb → okL ks la = true → okL ks lb = true → (Op.equalIn dd t a b).run P w = .ok (eqC la lb) w

theorem part_val {t : TypeId} {cs : Array Value} {off : Nat} {ks : List LK} {m : Nat} (hk : kindsOf P m t = some ks) (hl : ks.length = P.cellsOf t) (hle : off + ks.length ≤ cs.size) (w : World) :
    ∃ a, (part t cs off).run P w = .ok a w ∧ valIs P t a ((cs.toList.drop off).take ks.length) := by
  cases m with
  | zero => cases hk
  | succ m =>
    unfold kindsOf at hk
    have wide : ∀ d, P.underlying t = some d → aggT P t = some true → (∀ v l, (∃ c, v = .agg c ∧ c.toList = l) → valIs P t v l) → ∃ a, (part t cs off).run P w = .ok a w ∧ valIs P t a ((cs.toList.drop off).take ks.length) := by
      intro d hu hag hv
      obtain ⟨i, hi⟩ := info_of_aggT hag
      refine ⟨.agg (cs.extract off (off + P.cellsOf t)), ?_, hv _ _ ⟨_, rfl, by rw [extract_toList, hl]⟩⟩
      simp only [part, Sem.run_bind, isAgg_run hag, Result.andThen_ok, if_true, run_sizeOf w hi, Sem.run_pure]
    have thin : ks.length = 1 → aggT P t = some false → (∀ v, valIs P t v [v]) → ∃ a, (part t cs off).run P w = .ok a w ∧ valIs P t a ((cs.toList.drop off).take ks.length) := by
      intro h1 hag hv
      have hlt : off < cs.size := by omega
      refine ⟨cs[off], ?_, ?_⟩
      · have h1' : cs[off]? = some cs[off] := by simp [hlt]
        simp only [part, Sem.run_bind, isAgg_run hag, Result.andThen_ok, Bool.false_eq_true, if_false, h1', Sem.run_pure]
      · have : (cs.toList.drop off).take ks.length = [cs[off]] := by
          rw [h1, List.drop_eq_getElem_cons (by simpa using hlt)]; simp
        rw [this]; exact hv _
    split at hk
    · rename_i hu; cases hk; exact thin rfl (by simp [aggT, hu]) (fun v => by simp [valIs, hu])
    · rename_i hu; cases hk; exact thin rfl (by simp [aggT, hu]) (fun v => by simp [valIs, hu])
    · rename_i hu; cases hk; exact thin rfl (by simp [aggT, hu]) (fun v => by simp [valIs, hu])
    · rename_i hu; exact wide _ hu (by simp [aggT, hu]) (fun v l h => by simp only [valIs, hu]; exact h)
    · rename_i hu; exact wide _ hu (by simp [aggT, hu]) (fun v l h => by simp only [valIs, hu]; exact h)
    · cases hk

theorem eq_fields {dd m : Nat} (xs ys : Array Value) : ∀ (fs : List Field) (off : Nat) (ks : List LK), kFields P (kindsOf P m) off fs = some ks → (∀ f ∈ fs, ∀ k, kindsOf P m f.type = some k → EqT P dd f.type k) →
    okL ks (xs.toList.drop off) = true → okL ks (ys.toList.drop off) = true → ∀ w : World, (Op.eqFields dd xs ys fs).run P w = .ok (eqC (xs.toList.drop off) (ys.toList.drop off)) w
  | [], off, ks, hk, _, hx, hy, w => by
    simp only [kFields, Option.some.injEq] at hk; subst hk
    have ex : xs.toList.drop off = [] := List.length_eq_zero_iff.1 (okL_length hx)
    have ey : ys.toList.drop off = [] := List.length_eq_zero_iff.1 (okL_length hy)
    rw [ex, ey]
    simp [Op.eqFields, eqC]
  | f :: fs, off, ks, hk, hall, hx, hy, w => by
    simp only [kFields] at hk
    split at hk
    · rename_i hc
      split at hk
      · rename_i a l ha hl
        split at hk
        · rename_i hlen0
          obtain ⟨hlen, hne0⟩ := hlen0
          cases hk
          obtain ⟨x1, x2⟩ := okL_append hx
          obtain ⟨y1, y2⟩ := okL_append hy
          have lx := okL_length x1
          have ly := okL_length y1
          simp only [List.length_take, List.length_drop, Array.length_toList] at lx ly
          have hbx : off + a.length ≤ xs.size := by omega
          have hby : off + a.length ≤ ys.size := by omega
          obtain ⟨va, p1, v1⟩ := part_val ha hlen hbx w
          obtain ⟨vb, p2, v2⟩ := part_val ha hlen hby w
          have he := hall f (by simp) a ha w va vb _ _ v1 v2 x1 y1
          rw [List.drop_drop] at x2 y2
          rw [hlen] at x2 y2
          have ih := eq_fields xs ys fs (off + P.cellsOf f.type) l hl (fun g hg => hall g (by simp [hg])) x2 y2 w
          have ex : xs.toList.drop off = (xs.toList.drop off).take a.length ++ xs.toList.drop (off + P.cellsOf f.type) := by rw [← hlen, ← List.drop_drop, List.take_append_drop]
          have ey : ys.toList.drop off = (ys.toList.drop off).take a.length ++ ys.toList.drop (off + P.cellsOf f.type) := by rw [← hlen, ← List.drop_drop, List.take_append_drop]
          rw [← hc.1] at p1 p2
          simp only [Op.eqFields, if_pos hc.2, Sem.run_bind, p1, p2, Result.andThen_ok, he]
          have hE : eqC (xs.toList.drop off) (ys.toList.drop off) = (eqC ((xs.toList.drop off).take a.length) ((ys.toList.drop off).take a.length) && eqC (xs.toList.drop (off + P.cellsOf f.type)) (ys.toList.drop (off + P.cellsOf f.type))) := by
            conv => lhs; rw [ex, ey]
            exact eqC_append (by rw [okL_length x1, okL_length y1])
          rw [hE]
          cases hr : eqC ((xs.toList.drop off).take a.length) ((ys.toList.drop off).take a.length)
          · simp
          · simp [ih]
        · cases hk
      · cases hk
    · cases hk

theorem eq_items {dd m : Nat} {e : TypeId} {ks : List LK} (xs ys : Array Value) (hk : kindsOf P m e = some ks) (hl : ks.length = P.cellsOf e) (h0 : ks.length ≠ 0) (IH : EqT P dd e ks) : ∀ (n i : Nat),
    okL (List.replicate n ks).flatten (xs.toList.drop (i * P.cellsOf e)) = true → okL (List.replicate n ks).flatten (ys.toList.drop (i * P.cellsOf e)) = true →
    ∀ w : World, (Op.eqItems dd e (P.cellsOf e) xs ys (List.range' i n)).run P w = .ok (eqC (xs.toList.drop (i * P.cellsOf e)) (ys.toList.drop (i * P.cellsOf e))) w
  | 0, i, hx, hy, w => by
    have ex : xs.toList.drop (i * P.cellsOf e) = [] := List.length_eq_zero_iff.1 (okL_length hx)
    have ey : ys.toList.drop (i * P.cellsOf e) = [] := List.length_eq_zero_iff.1 (okL_length hy)
    rw [ex, ey]
    simp [Op.eqItems, eqC]
  | n + 1, i, hx, hy, w => by
    rw [List.replicate_succ, List.flatten_cons] at hx hy
    obtain ⟨x1, x2⟩ := okL_append hx
    obtain ⟨y1, y2⟩ := okL_append hy
    have gx := okL_length hx
    have gy := okL_length hy
    simp only [List.length_drop, Array.length_toList, List.length_append] at gx gy
    have hbx : i * P.cellsOf e + ks.length ≤ xs.size := by omega
    have hby : i * P.cellsOf e + ks.length ≤ ys.size := by omega
    obtain ⟨va, p1, v1⟩ := part_val hk hl hbx w
    obtain ⟨vb, p2, v2⟩ := part_val hk hl hby w
    have he := IH w va vb _ _ v1 v2 x1 y1
    rw [List.drop_drop] at x2 y2
    have en : i * P.cellsOf e + ks.length = (i + 1) * P.cellsOf e := by rw [hl, Nat.add_mul, Nat.one_mul]
    rw [en] at x2 y2
    have ih := eq_items xs ys hk hl h0 IH n (i + 1) x2 y2 w
    have ex : xs.toList.drop (i * P.cellsOf e) = (xs.toList.drop (i * P.cellsOf e)).take ks.length ++ xs.toList.drop ((i + 1) * P.cellsOf e) := by rw [← en, ← List.drop_drop, List.take_append_drop]
    have ey : ys.toList.drop (i * P.cellsOf e) = (ys.toList.drop (i * P.cellsOf e)).take ks.length ++ ys.toList.drop ((i + 1) * P.cellsOf e) := by rw [← en, ← List.drop_drop, List.take_append_drop]
    simp only [List.range'_succ, Op.eqItems, Sem.run_bind, p1, p2, Result.andThen_ok, he]
    have hE : eqC (xs.toList.drop (i * P.cellsOf e)) (ys.toList.drop (i * P.cellsOf e)) = (eqC ((xs.toList.drop (i * P.cellsOf e)).take ks.length) ((ys.toList.drop (i * P.cellsOf e)).take ks.length) && eqC (xs.toList.drop ((i + 1) * P.cellsOf e)) (ys.toList.drop ((i + 1) * P.cellsOf e))) := by
      conv => lhs; rw [ex, ey]
      exact eqC_append (by rw [okL_length x1, okL_length y1])
    rw [hE]
    cases hr : eqC ((xs.toList.drop (i * P.cellsOf e)).take ks.length) ((ys.toList.drop (i * P.cellsOf e)).take ks.length)
    · simp
    · simp [ih]

theorem one_of {t : TypeId} {v : Value} {l : List Value} (h : valIs P t v l) (hu : ∀ n e, P.underlying t ≠ some (.array n e)) (hs : ∀ fs, P.underlying t ≠ some (.struct fs)) : l = [v] := by
  unfold valIs at h
  split at h
  · rename_i hu'; exact absurd hu' (hu _ _)
  · rename_i hu'; exact absurd hu' (hs _)
  · exact h

theorem eqT_of : ∀ (m : Nat) {t : TypeId} {ks : List LK}, kindsOf P m t = some ks → ∀ d, EqT P (d + m) t ks
  | 0, t, ks, hk, _ => by cases hk
  | m + 1, t, ks, hk, d => by
    intro w a b la lb ha hb xa xb
    have IH := @eqT_of m
    unfold kindsOf at hk
    split at hk
    · rename_i hu
      cases hk
      have h1 := one_of ha (fun n e h => by rw [hu] at h; cases h) (fun fs h => by rw [hu] at h; cases h)
      have h2 := one_of hb (fun n e h => by rw [hu] at h; cases h) (fun fs h => by rw [hu] at h; cases h)
      subst h1; subst h2
      cases a <;> simp [okL, LK.ok] at xa
      cases b <;> simp [okL, LK.ok] at xb
      rw [show d + (m + 1) = (d + m) + 1 from rfl, run_equalIn_bool _ _ _ _ _ hu]
      simp [eqC, sEq]
    · rename_i k hu
      cases hk
      have h1 := one_of ha (fun n e h => by rw [hu] at h; cases h) (fun fs h => by rw [hu] at h; cases h)
      have h2 := one_of hb (fun n e h => by rw [hu] at h; cases h) (fun fs h => by rw [hu] at h; cases h)
      subst h1; subst h2
      cases a <;> simp [okL, LK.ok] at xa
      cases b <;> simp [okL, LK.ok] at xb
      subst xa; subst xb
      rw [show d + (m + 1) = (d + m) + 1 from rfl, run_equalIn_int _ _ _ _ _ _ _ hu]
      simp [eqC, sEq]
      rfl
    · rename_i hu
      cases hk
      have h1 := one_of ha (fun n e h => by rw [hu] at h; cases h) (fun fs h => by rw [hu] at h; cases h)
      have h2 := one_of hb (fun n e h => by rw [hu] at h; cases h) (fun fs h => by rw [hu] at h; cases h)
      subst h1; subst h2
      cases a <;> simp [okL, LK.ok] at xa
      cases b <;> simp [okL, LK.ok] at xb
      rw [show d + (m + 1) = (d + m) + 1 from rfl, run_equalIn_string _ _ _ _ _ hu]
      simp [eqC, sEq]
    · rename_i n e hu
      split at hk
      · rename_i k0 hk0
        split at hk
        · rename_i hc
          cases hk
          simp only [valIs, hu] at ha hb
          obtain ⟨xs, rfl, rfl⟩ := ha
          obtain ⟨ys, rfl, rfl⟩ := hb
          obtain ⟨i, hi⟩ := Option.isSome_iff_exists.1 hc.2.1
          rw [show d + (m + 1) = (d + m) + 1 from rfl, run_equalIn_array w (d + m) xs ys hu hi]
          have := eq_items xs ys hk0 hc.1 hc.2.2 (IH hk0 d) n 0 (by simpa using xa) (by simpa using xb) w
          rw [List.range_eq_range', this]
          simp
        · cases hk
      · cases hk
    · rename_i fs hu
      split at hk
      · rename_i hp
        simp only [valIs, hu] at ha hb
        obtain ⟨xs, rfl, rfl⟩ := ha
        obtain ⟨ys, rfl, rfl⟩ := hb
        have hf : P.fieldsOf t = fs := by simp [Program.fieldsOf, hu]
        rw [show d + (m + 1) = (d + m) + 1 from rfl, run_equalIn_struct w (d + m) t xs ys (by rw [hf]; exact hu) hp, hf]
        have := eq_fields (P := P) (dd := d + m) xs ys fs.toList 0 ks hk (fun f _ k hk' => IH hk' d) (by simpa using xa) (by simpa using xb) w
        simpa using this
      · cases hk
    · cases hk

end

/-- Two structs, or arrays, compared. -/
def reqA (ne : Bool) (ks : List LK) (x y : Value) : Option Value :=
  match x, y with
  | .agg a, .agg b => if okL ks a.toList && okL ks b.toList then some (.bool (if ne then !eqC a.toList b.toList else eqC a.toList b.toList)) else none
  | _, _ => none

theorem okL_lr {ρ : Ren} : ∀ {ks : List LK} {l l' : List Value}, okL ks l = true → LR ρ l l' → l' = l
  | [], [], [], _, _ => rfl
  | [], [], _ :: _, _, h => h.elim
  | k :: ks, v :: l, [], _, h => h.elim
  | k :: ks, v :: l, v' :: l', h, hl => by
    simp only [okL, Bool.and_eq_true] at h
    have h1 : v' = v := by
      cases k <;> cases v <;> simp [LK.ok] at h <;> cases hl.1 <;> rfl
    rw [h1, okL_lr h.2 hl.2]
  | [], _ :: _, _, h, _ => by cases h
  | _ :: _, [], _, h, _ => by cases h

def isWide (P : Program) (t : TypeId) : Bool :=
  match P.underlying t with
  | some (.array _ _) | some (.struct _) => true
  | _ => false

theorem reqA_good {P : Program} {ρ : Ren} {ne : Bool} {ks : List LK} {t : TypeId} {x y x' y' v : Value} (hk : kindsOf P 20 t = some ks) (hu : isWide P t = true)
    (h : reqA ne ks x y = some v) (hx : VR ρ x x') (hy : VR ρ y y') (w : World) : (binOp (if ne then .neq else .eql) t x' y').run P w = .ok v w ∧ VR ρ v v := by
  unfold reqA at h
  split at h
  · split at h
    · rename_i hok
      rw [Bool.and_eq_true] at hok
      cases hx with
      | agg hs hc =>
        rename_i a a'
        cases hy with
        | agg hs2 hc2 =>
          rename_i b b'
          have e1 := okL_lr hok.1 (LR.of_arr hs hc)
          have e2 := okL_lr hok.2 (LR.of_arr hs2 hc2)
          have hv : ∀ c : Array Value, valIs P t (.agg c) c.toList := by
            intro c
            unfold valIs
            split
            · exact ⟨c, rfl, rfl⟩
            · exact ⟨c, rfl, rfl⟩
            · rename_i h1 h2; unfold isWide at hu; split at hu <;> simp_all
          have he := eqT_of 20 hk 9980 w (.agg a') (.agg b') a'.toList b'.toList (hv a') (hv b') (by rw [e1]; exact hok.1) (by rw [e2]; exact hok.2)
          rw [e1, e2] at he
          simp only [Option.some.injEq] at h; subst h
          cases ne
          · simp only [Bool.false_eq_true, if_false]
            rw [run_eql_struct, he]
            exact ⟨rfl, .bool _⟩
          · simp only [if_true]
            rw [run_neq_struct, he]
            exact ⟨rfl, .bool _⟩
    · cases h
  · cases h

/-- What can be compared of a type that is no cell's: at once. -/
def eqKinds (P : Program) (t : TypeId) : Option (List LK) := if isWide P t = true ∧ P.eqGuardType P.depth t = false then kindsOf P 20 t else none

def aeqA (P : Program) (op : BinOp) (t : TypeId) (a b : Value) : Option Value :=
  match op, eqKinds P t with
  | .eql, some ks => reqA false ks a b
  | .neq, some ks => reqA true ks a b
  | _, _ => none

def abinE (P : Program) (op : BinOp) (t : TypeId) (x y : Operand) (a b : Value) : Option Value :=
  match anilnil P op t x y a b with
  | some v => some v
  | none => aeqA P op t a b

theorem abinE_of {P : Program} {op : BinOp} {t : TypeId} {x y : Operand} {a b v : Value} (h : anilnil P op t x y a b = some v) : abinE P op t x y a b = some v := by
  unfold abinE; rw [h]

theorem abinE_good {P : Program} {ρ : Ren} {op : BinOp} {t : TypeId} {x y : Operand} {va vb va' vb' r : Value} (h : abinE P op t x y va vb = some r) (hx : VR ρ va va') (hy : VR ρ vb vb') (w : World) :
    ((do eqGuard op t x y va' vb'; binOp op t va' vb' : Sem Value).run P w) = .ok r w ∧ VR ρ r r := by
  unfold abinE at h
  split at h
  · rename_i v hv
    simp only [Option.some.injEq] at h; subst h
    exact anilnil_good hv hx hy w
  · have key : ∀ ne ks, eqKinds P t = some ks → reqA ne ks va vb = some r → ((do eqGuard (if ne then .neq else .eql) t x y va' vb'; binOp (if ne then .neq else .eql) t va' vb' : Sem Value).run P w) = .ok r w ∧ VR ρ r r := by
      intro ne ks hk hr
      unfold eqKinds at hk
      split at hk
      · rename_i hc
        obtain ⟨h1, h2⟩ := reqA_good hk hc.1 hr hx hy w
        refine ⟨?_, h2⟩
        have hg : (eqGuard (if ne then .neq else .eql) t x y va' vb').run P w = .ok () w := by
          unfold reqA at hr
          split at hr
          · cases hx; cases hy
            cases ne <;> simp [eqGuard, hc.2]
          · cases hr
        simp only [Sem.run_bind, hg, Result.andThen_ok, h1]
      · cases hk
    unfold aeqA at h
    split at h
    · rename_i hk _; exact key false _ (by assumption) h
    · exact key true _ (by assumption) h
    · cases h

end Go.Proofs.YtmknkpcdfkpobaaA
