/- What an operation does to abstract values and an abstract heap; and that the model's operation does so. -/
import Derived.Test.YtmknkpcdfkpobaaA2b
set_option linter.unusedVariables false
set_option linter.unusedSimpArgs false
namespace Go.Proofs.YtmknkpcdfkpobaaA
open Go.RowKit

def aggT (P : Program) (t : TypeId) : Option Bool :=
  match P.underlying t with
  | some (.struct _) | some (.array _ _) => some true
  | some _ => some false
  | none => none

def tzero (P : Program) (t : TypeId) : Option Value := (P.info? t).bind (·.zero)

def cellsL : Value → List Value
  | .agg cs => cs.toList
  | v => [v]

def aload (P : Program) (t : TypeId) (H : AH) (b o : Nat) : Option Value :=
  match H.blk b with
  | some (.cells cs _) =>
    match aggT P t with
    | some true => if o + P.cellsOf t ≤ cs.length then some (.agg ((cs.drop o).take (P.cellsOf t)).toArray) else none
    | some false => cs[o]?
    | none => none
  | _ => none

def astore (P : Program) (t : TypeId) (H : AH) (b o : Nat) (v : Value) (K : AH → Prop) : Prop :=
  match H.blk b with
  | some (.cells cs true) =>
    (cellsL v).length = P.cellsOf t ∧ (P.underlying t).isSome = true ∧ (cellsL v).all okCell = true ∧ o + (cellsL v).length ≤ cs.length ∧ K (H.set b (.cells (splice cs o (cellsL v)) true))
  | _ => False

def anew (H : AH) (cs : List Value) (K : Value → AH → Prop) : Prop :=
  cs.all okCell = true ∧ K (.pointer (some ⟨H.next, 0, none⟩)) (H.alloc (.cells cs true))

def Good (B : Nat) (ρ : Ren) (w : World) (K : Value → AH → Prop) (res : Result Next) : Prop :=
  ∃ v v' H' ρ' w', (res = .ok (.value v') w' ∨ res = .ok .skip w' ∧ v' = undef) ∧ VR ρ' v v' ∧ K v H' ∧ Sim B ρ' H' w' ∧ RenLe ρ ρ' ∧ Below B w w'

section
variable {P : Program} {B : Nat} {ρ : Ren} {H : AH} {w : World} {K : Value → AH → Prop}

theorem Good.pure {v v' : Value} (hS : Sim B ρ H w) (hv : VR ρ v v') (hK : K v H) : Good B ρ w K (.ok (.value v') w) :=
  ⟨v, v', H, ρ, w, .inl rfl, hv, hK, hS, RenLe.refl ρ, Below.refl B w⟩

theorem Good.of {s : Sem Value} {v v' : Value} (hs : s.run P w = .ok v' w) (hS : Sim B ρ H w) (hv : VR ρ v v') (hK : K v H) :
    Good B ρ w K ((do Pure.pure (Next.value (← s)) : Sem Next).run P w) := by
  simp only [Sem.run_bind, hs, Result.andThen_ok, Sem.run_pure]
  exact Good.pure hS hv hK

theorem isAgg_run {t : TypeId} {b : Bool} (h : aggT P t = some b) (w : World) : (isAgg t).run P w = .ok b w := by
  unfold aggT at h
  unfold isAgg
  cases hu : P.underlying t with
  | none => simp [hu] at h
  | some d =>
    rw [hu] at h
    simp only [Sem.run_bind, run_underlying hu, Result.andThen_ok]
    cases d <;> simp_all

theorem info_of_aggT {t : TypeId} {b : Bool} (h : aggT P t = some b) : ∃ i, P.info? t = some i := by
  unfold aggT at h
  cases hu : P.underlying t with
  | none => simp [hu] at h
  | some d => exact info_of_underlying hu

theorem cellsL_cells (v : Value) : v.cells.toList = cellsL v := by cases v <;> rfl

theorem LR.cells {v v' : Value} (h : VR ρ v v') (hok : (cellsL v).all okCell = true) : LR ρ (cellsL v) v'.cells.toList := by
  cases h with
  | agg hs hc => exact LR.of_arr hs hc
  | unk => simp [cellsL, okCell] at hok
  | tuple => simp [cellsL, okCell] at hok
  | bool b => exact ⟨.bool b, trivial⟩
  | int k n => exact ⟨.int k n, trivial⟩
  | string s => exact ⟨.string s, trivial⟩
  | nilFunc => exact ⟨.nilFunc, trivial⟩
  | nilIface => exact ⟨.nilIface, trivial⟩
  | ptrNil => exact ⟨.ptrNil, trivial⟩
  | ptr h => exact ⟨.ptr h, trivial⟩
  | slNil => exact ⟨.slNil, trivial⟩
  | slEx h => exact ⟨.slEx h, trivial⟩
  | slZ => exact ⟨.slZ, trivial⟩
  | mapNil => exact ⟨.mapNil, trivial⟩
  | map h => exact ⟨.map h, trivial⟩
  | func fn m a b c d => exact ⟨.func fn m a b c d, trivial⟩
  | frzS a b => exact ⟨.frzS a b, trivial⟩
  | frzN a => exact ⟨.frzN a, trivial⟩
  | frzZ a => exact ⟨.frzZ a, trivial⟩
  | frzP a => exact ⟨.frzP a, trivial⟩
  | iface t h => exact ⟨.iface t h, trivial⟩

/-! ### load, store, new -/

theorem loadVar_good {t : TypeId} {b o : Nat} {v : Value} {r : RB} (hS : Sim B ρ H w) (hr : ρ b = some r) (h : aload P t H b o = some v) :
    ∃ v', (loadVar t ⟨r.blk, r.sh + o, none⟩).run P w = .ok v' w ∧ VR ρ v v' := by
  unfold aload at h
  cases hb : H.blk b with
  | none => simp [hb] at h
  | some ob =>
    cases ob with
    | map es k => simp [hb] at h
    | cells cs rw =>
      simp only [hb] at h
      obtain ⟨r', hr', hat⟩ := hS.get b _ hb
      rw [hr] at hr'; cases hr'
      cases hag : aggT P t with
      | none => simp [hag] at h
      | some ag =>
        unfold loadVar
        cases ag with
        | false =>
          simp only [hag] at h
          obtain ⟨v', h1, h2, _⟩ := CellsAt.read hat h
          exact ⟨v', by simp only [Sem.run_bind, isAgg_run hag, Result.andThen_ok, Bool.false_eq_true, if_false, run_load, h1], h2⟩
        | true =>
          simp only [hag] at h
          split at h
          · rename_i hle
            simp only [Option.some.injEq] at h
            subst h
            obtain ⟨l', h1, h2, _, h4⟩ := CellsAt.reads hat o _ hle
            obtain ⟨i, hi⟩ := info_of_aggT hag
            have hld := run_loadCells_list (P := P) w ⟨r.blk, r.sh + o, none⟩ l' h4
            rw [h1] at hld
            refine ⟨.agg l'.toArray, ?_, VR.aggL (by simpa using h2)⟩
            simp only [Sem.run_bind, isAgg_run hag, Result.andThen_ok, if_true, run_sizeOf w hi, hld, Sem.run_pure]
          · simp at h

def aloadF (P : Program) (t : TypeId) (cs : List Value) : Option Value :=
  match aggT P t with
  | some true => if P.cellsOf t ≤ cs.length then some (.agg (cs.take (P.cellsOf t)).toArray) else none
  | some false => cs[0]?
  | none => none

theorem loadVarF_good {t : TypeId} {b o : Nat} {cs : List Value} {v : Value} (hS : Sim B ρ H w) (hz : ∀ i v, cs[i]? = some v → ρ.z b (o + i) v) (h : aloadF P t cs = some v) :
    ∃ v', (loadVar t ⟨b, o, none⟩).run P w = .ok v' w ∧ VR ρ v v' := by
  unfold aloadF at h
  cases hag : aggT P t with
  | none => simp [hag] at h
  | some ag =>
    unfold loadVar
    cases ag with
    | false =>
      simp only [hag] at h
      obtain ⟨v', h1, h2, _⟩ := hS.zread (hz 0 v h)
      exact ⟨v', by rw [Nat.add_zero] at h1; simp only [Sem.run_bind, isAgg_run hag, Result.andThen_ok, Bool.false_eq_true, if_false, run_load, h1], h2⟩
    | true =>
      simp only [hag] at h
      split at h
      · rename_i hle
        simp only [Option.some.injEq] at h
        subst h
        obtain ⟨l', h1, h2, _, h4⟩ := hS.zreads _ cs o hz hle
        obtain ⟨i, hi⟩ := info_of_aggT hag
        have hld := run_loadCells_list (P := P) w ⟨b, o, none⟩ l' h4
        rw [h1] at hld
        refine ⟨.agg l'.toArray, ?_, VR.aggL (by simpa using h2)⟩
        simp only [Sem.run_bind, isAgg_run hag, Result.andThen_ok, if_true, run_sizeOf w hi, hld, Sem.run_pure]
      · simp at h

theorem storeVar_good {t : TypeId} {b o : Nat} {v v' : Value} {r : RB} {K : AH → Prop} (hS : Sim B ρ H w) (hr : ρ b = some r) (hv : VR ρ v v') (h : astore P t H b o v K) :
    ∃ w' H', (storeVar t ⟨r.blk, r.sh + o, none⟩ v').run P w = .ok () w' ∧ Sim B ρ H' w' ∧ K H' ∧ Below B w w' := by
  unfold astore at h
  cases hb : H.blk b with
  | none => simp [hb] at h
  | some ob =>
    cases ob with
    | map es k => simp [hb] at h
    | cells cs rw =>
      cases rw with
      | false => simp [hb] at h
      | true =>
        simp only [hb] at h
        obtain ⟨hsz, hsome, hok, hle, hK⟩ := h
        obtain ⟨r', hr', hat⟩ := hS.get b _ hb
        rw [hr] at hr'; cases hr'
        obtain ⟨d, hd⟩ := Option.isSome_iff_exists.1 hsome
        obtain ⟨i, hi⟩ := info_of_underlying hd
        have hL := LR.cells hv hok
        obtain ⟨w', h1, h2, h3, h4, h5⟩ := CellsAt.write hat hle hL (List.all_eq_true.1 hok) P
        have hsz' : v'.cells.size = P.cellsOf t := by rw [← hsz, hL.length]; simp
        refine ⟨w', _, ?_, hS.set (o' := .cells (splice cs o (cellsL v)) true) hb rfl hr h2 h3 h4, hK, h5⟩
        unfold storeVar
        simp only [Sem.run_bind, run_sizeOf w hi, Result.andThen_ok, hsz', ne_eq, not_true, if_false, Sem.run_pure, Sem.run_ite]
        exact h1

def abox (H : AH) (cs : List Value) (K : Value → AH → Prop) : Prop :=
  cs.all okCell = true ∧ zK cs (.pointer (some ⟨H.next, 0, none⟩)) (FP cs) H K

theorem box_good {cs cs' : List Value} {elem : TypeId} (hS : Sim B ρ H w) (hv : LR ρ cs cs') (h : abox H cs K) :
    ∃ w' v v' H' ρ', (newRow elem cs'.toArray).run P w = .ok v' w' ∧ VR ρ' v (.pointer (some v')) ∧ K v H' ∧ Sim B ρ' H' w' ∧ RenLe ρ ρ' ∧ Below B w w' := by
  obtain ⟨hok, hK⟩ := h
  have key := hS.alloc (o := .cells cs true) (ob := .cells cs'.toArray elem) (r := ⟨w.heap.size, 0, cs'.length⟩) rfl (fun ρ' hρ => by
    show CellsAt ρ' cs true B _ _
    have := CellsAt.new (B := B) (w := w) (hv.mono hρ) (List.all_eq_true.1 hok) hS.base elem []
    simpa using this)
  obtain ⟨h1, h2, h3, h4⟩ := key
  rcases hK with hK | ⟨hn, hK⟩
  · exact ⟨_, _, ⟨w.heap.size, 0, none⟩, _, _, by simp [newRow], VR.ptr h3, hK, h1, h2, h4⟩
  · obtain ⟨ρ', k1, k2, k3⟩ := hS.allocZ h2 h1 h3 hn
    exact ⟨_, _, ⟨w.heap.size, 0, none⟩, _, ρ', by simp [newRow], VR.fp k3, hK, k1, k2, h4⟩

theorem new_good {cs cs' : List Value} {elem : TypeId} (hS : Sim B ρ H w) (hv : LR ρ cs cs') (h : anew H cs K) :
    ∃ w' v v' H' ρ', (newRow elem cs'.toArray).run P w = .ok v' w' ∧ v = .pointer (some ⟨H.next, 0, none⟩) ∧ VR ρ' v (.pointer (some v')) ∧ K v H' ∧ Sim B ρ' H' w' ∧ RenLe ρ ρ' ∧ Below B w w' := by
  obtain ⟨hok, hK⟩ := h
  have key := hS.alloc (o := .cells cs true) (ob := .cells cs'.toArray elem) (r := ⟨w.heap.size, 0, cs'.length⟩) rfl (fun ρ' hρ => by
    show CellsAt ρ' cs true B _ _
    have := CellsAt.new (B := B) (w := w) (hv.mono hρ) (List.all_eq_true.1 hok) hS.base elem []
    simpa using this)
  obtain ⟨h1, h2, h3, h4⟩ := key
  exact ⟨_, _, ⟨w.heap.size, 0, none⟩, _, _, by simp [newRow], rfl, VR.ptr h3, hK, h1, h2, h4⟩


/-! ### Arithmetic and comparisons -/

def abin (P : Program) (op : BinOp) (t : TypeId) (x y : Value) : Option Value :=
  match x, y with
  | .int k a, .int k' b =>
    match op with
    | .add => if k = k' then some (.int k (k.wrap (a + b))) else none
    | .sub => if k = k' then some (.int k (k.wrap (a - b))) else none
    | .mul => if k = k' then some (.int k (k.wrap (a * b))) else none
    | .quo => if k = k' ∧ b ≠ 0 then some (.int k (k.wrap (a.tdiv b))) else none
    | .rem => if k = k' ∧ b ≠ 0 then some (.int k (a.tmod b)) else none
    | .and => if k = k' then some (.int k (k.wrap (BitVec.ofInt k.bits a &&& BitVec.ofInt k.bits b).toNat)) else none
    | .or => if k = k' then some (.int k (k.wrap (BitVec.ofInt k.bits a ||| BitVec.ofInt k.bits b).toNat)) else none
    | .xor => if k = k' then some (.int k (k.wrap (BitVec.ofInt k.bits a ^^^ BitVec.ofInt k.bits b).toNat)) else none
    | .andNot => if k = k' then some (.int k (k.wrap (BitVec.ofInt k.bits a &&& ~~~BitVec.ofInt k.bits b).toNat)) else none
    | .shl => if 0 ≤ b then some (.int k (k.wrap (a * 2 ^ (min b.toNat k.bits)))) else none
    | .shr => if 0 ≤ b then some (.int k (a.fdiv (2 ^ (min b.toNat k.bits)))) else none
    | .eql => if k = k' then some (.bool (decide (a = b))) else none
    | .neq => if k = k' then some (.bool (!decide (a = b))) else none
    | .lss => if k = k' then some (.bool (decide (a < b))) else none
    | .leq => if k = k' then some (.bool (decide (a ≤ b))) else none
    | .gtr => if k = k' then some (.bool (decide (b < a))) else none
    | .geq => if k = k' then some (.bool (decide (b ≤ a))) else none
  | .string a, .string b =>
    match op with
    | .eql => some (.bool (a.toList == b.toList))
    | .neq => some (.bool (!(a.toList == b.toList)))
    | _ => none
  | .bool a, .bool b =>
    match op, P.underlying t with
    | .eql, some .bool => some (.bool (a == b))
    | .neq, some .bool => some (.bool (!(a == b)))
    | _, _ => none
  | .iface _ _, .nilIface =>
    match op, P.underlying t with
    | .eql, some (.interface _) => some (.bool false)
    | .neq, some (.interface _) => some (.bool true)
    | _, _ => none
  | .slice a _ _, .slice none _ _ =>
    match op, P.underlying t with
    | .eql, some (.slice _) => some (.bool a.isNone)
    | .neq, some (.slice _) => some (.bool a.isSome)
    | _, _ => none
  | .pointer a, .pointer none =>
    match op, P.underlying t with
    | .eql, some (.pointer _) => some (.bool a.isNone)
    | .neq, some (.pointer _) => some (.bool a.isSome)
    | _, _ => none
  | _, _ => none

def isC : Operand → Bool
  | .const _ => true
  | _ => false

/-- Two nil interface values, one of them the literal. -/
def anilnil (P : Program) (op : BinOp) (t : TypeId) (x y : Operand) (a b : Value) : Option Value :=
  match a, b with
  | .nilIface, .nilIface =>
    if isC x || isC y then
      match op, P.underlying t with
      | .eql, some (.interface _) => some (.bool true)
      | .neq, some (.interface _) => some (.bool false)
      | _, _ => none
    else none
  | _, _ => abin P op t a b


theorem run_equal_of {t : TypeId} {x y : Value} {b : Bool} {w : World} (h : ∀ d, (Op.equalIn (d + 1) t x y).run P w = .ok b w) : (Op.equal t x y).run P w = .ok b w := h 9999

theorem run_binOp_eql {t : TypeId} {x y : Value} {b : Bool} {w : World} (hb : binOp .eql t x y = (do Pure.pure (.bool (← Op.equal t x y)))) (h : ∀ d, (Op.equalIn (d + 1) t x y).run P w = .ok b w) : (binOp .eql t x y).run P w = .ok (.bool b) w := by
  rw [hb]; simp only [Sem.run_bind, run_equal_of h, Result.andThen_ok, Sem.run_pure]

theorem run_binOp_neq {t : TypeId} {x y : Value} {b : Bool} {w : World} (hb : binOp .neq t x y = (do Pure.pure (.bool (!(← Op.equal t x y))))) (h : ∀ d, (Op.equalIn (d + 1) t x y).run P w = .ok b w) : (binOp .neq t x y).run P w = .ok (.bool (!b)) w := by
  rw [hb]; simp only [Sem.run_bind, run_equal_of h, Result.andThen_ok, Sem.run_pure]

theorem eqIn_bool {t : TypeId} (hu : P.underlying t = some .bool) (d : Nat) (a b : Bool) (w : World) : (Op.equalIn (d + 1) t (.bool a) (.bool b)).run P w = .ok (a == b) w := by
  simp only [Op.equalIn, Sem.run_bind, run_underlying hu, Result.andThen_ok, Sem.run_pure]
theorem eqIn_ifaceNil {t : TypeId} {ms : Array (String × TypeId)} (hu : P.underlying t = some (.interface ms)) (d : Nat) (T : TypeId) (v : Value) (w : World) : (Op.equalIn (d + 1) t (.iface T v) .nilIface).run P w = .ok false w := by
  simp only [Op.equalIn, Sem.run_bind, run_underlying hu, Result.andThen_ok, Sem.run_pure]
theorem eqIn_nilnil {t : TypeId} {ms : Array (String × TypeId)} (hu : P.underlying t = some (.interface ms)) (d : Nat) (w : World) : (Op.equalIn (d + 1) t .nilIface .nilIface).run P w = .ok true w := by
  simp only [Op.equalIn, Sem.run_bind, run_underlying hu, Result.andThen_ok, Sem.run_pure]
theorem eqIn_sliceNil {t e : TypeId} (hu : P.underlying t = some (.slice e)) (d : Nat) (a : Option Addr) (n c m k : Nat) (w : World) : (Op.equalIn (d + 1) t (.slice a n c) (.slice none m k)).run P w = .ok a.isNone w := by
  cases a <;> simp only [Op.equalIn, Sem.run_bind, run_underlying hu, Result.andThen_ok, Sem.run_pure] <;> rfl
theorem eqIn_ptrNil {t e : TypeId} (hu : P.underlying t = some (.pointer e)) (d : Nat) (a : Option Addr) (w : World) : (Op.equalIn (d + 1) t (.pointer a) (.pointer none)).run P w = .ok a.isNone w := by
  cases a <;> simp only [Op.equalIn, Sem.run_bind, run_underlying hu, Result.andThen_ok, Sem.run_pure] <;> rfl

theorem run_binOp {op : BinOp} {t : TypeId} {x y : Value} {r x' y' : Value} (h : abin P op t x y = some r) (hx : VR ρ x x') (hy : VR ρ y y') (w : World) :
    (binOp op t x' y').run P w = .ok r w ∧ VR ρ r r := by
  unfold abin at h
  split at h
  · cases hx; cases hy
    cases op <;> simp only at h <;> (try (split at h <;> try (simp at h; done))) <;>
      (simp only [Option.some.injEq] at h; subst h) <;>
      (refine ⟨?_, by constructor⟩) <;>
      simp_all [binOp, Op.intArith, Op.intDiv, Op.intBits, Op.intCmp, Op.shift, Int.not_lt, bne]
    all_goals first
      | (intro h0; omega)
      | rfl
      | (rw [Bool.eq_iff_iff]; simp)
  · cases hx; cases hy
    cases op <;> simp only at h <;> (try (simp at h; done)) <;> (simp only [Option.some.injEq] at h; subst h) <;> exact ⟨by simp [binOp, Op.stringOp], by constructor⟩
  · cases hx; cases hy
    split at h <;> first | (simp at h; done) | skip
    · rename_i hu
      simp only [Option.some.injEq] at h; subst h
      exact ⟨run_binOp_eql rfl fun d => eqIn_bool hu d _ _ w, by constructor⟩
    · rename_i hu
      simp only [Option.some.injEq] at h; subst h
      exact ⟨run_binOp_neq rfl fun d => eqIn_bool hu d _ _ w, by constructor⟩
  · cases hx; cases hy
    split at h <;> first | (simp at h; done) | skip
    · rename_i hu
      simp only [Option.some.injEq] at h; subst h
      exact ⟨run_binOp_eql rfl fun d => eqIn_ifaceNil hu d _ _ w, by constructor⟩
    · rename_i hu
      simp only [Option.some.injEq] at h; subst h
      exact ⟨run_binOp_neq (b := false) rfl fun d => eqIn_ifaceNil hu d _ _ w, by constructor⟩
  · split at h <;> first | (simp at h; done) | skip
    · rename_i hu
      simp only [Option.some.injEq] at h; subst h
      cases hy
      cases hx <;> exact ⟨run_binOp_eql rfl fun d => eqIn_sliceNil hu d _ _ _ _ _ w, by constructor⟩
    · rename_i hu
      simp only [Option.some.injEq] at h; subst h
      cases hy
      cases hx
      · exact ⟨run_binOp_neq (b := true) rfl fun d => eqIn_sliceNil hu d _ _ _ _ _ w, by constructor⟩
      · exact ⟨run_binOp_neq (b := false) rfl fun d => eqIn_sliceNil hu d _ _ _ _ _ w, by constructor⟩
      · exact ⟨run_binOp_neq (b := false) rfl fun d => eqIn_sliceNil hu d _ _ _ _ _ w, by constructor⟩
  · split at h <;> first | (simp at h; done) | skip
    · rename_i hu
      simp only [Option.some.injEq] at h; subst h
      cases hy
      cases hx <;> exact ⟨run_binOp_eql rfl fun d => eqIn_ptrNil hu d _ w, by constructor⟩
    · rename_i hu
      simp only [Option.some.injEq] at h; subst h
      cases hy
      cases hx
      · exact ⟨run_binOp_neq (b := true) rfl fun d => eqIn_ptrNil hu d _ w, by constructor⟩
      · exact ⟨run_binOp_neq (b := false) rfl fun d => eqIn_ptrNil hu d _ w, by constructor⟩
  · simp at h

theorem anilnil_good {op : BinOp} {t : TypeId} {x y : Operand} {va vb va' vb' r : Value} (h : anilnil P op t x y va vb = some r) (hx : VR ρ va va') (hy : VR ρ vb vb') (w : World) :
    ((do eqGuard op t x y va' vb'; binOp op t va' vb' : Sem Value).run P w) = .ok r w ∧ VR ρ r r := by
  unfold anilnil at h
  split at h
  · cases hx; cases hy
    split at h
    · rename_i hc
      split at h <;> first | (simp at h; done) | skip
      · rename_i hu
        simp only [Option.some.injEq] at h; subst h
        refine ⟨?_, by constructor⟩
        have : (eqGuard .eql t x y .nilIface .nilIface).run P w = .ok () w := by cases x <;> cases y <;> first | rfl | simp [isC] at hc
        simp only [Sem.run_bind, this, Result.andThen_ok]
        exact run_binOp_eql rfl fun d => eqIn_nilnil hu d w
      · rename_i hu
        simp only [Option.some.injEq] at h; subst h
        refine ⟨?_, by constructor⟩
        have : (eqGuard .neq t x y .nilIface .nilIface).run P w = .ok () w := by cases x <;> cases y <;> first | rfl | simp [isC] at hc
        simp only [Sem.run_bind, this, Result.andThen_ok]
        exact run_binOp_neq (b := true) rfl fun d => eqIn_nilnil hu d w
    · simp at h
  · rename_i hne
    obtain ⟨h1, h2⟩ := run_binOp h hx hy w
    refine ⟨?_, h2⟩
    have : (eqGuard op t x y va' vb').run P w = .ok () w := by
      have hcase : (op = .eql ∨ op = .neq) ∨ (eqGuard op t x y va' vb').run P w = .ok () w := by
        cases op <;> first | exact .inl (.inl rfl) | exact .inl (.inr rfl) | exact .inr rfl
      rcases hcase with hop | hdone
      · unfold abin at h
        rcases hop with rfl | rfl
        all_goals
          split at h
          · cases hx; cases hy; rfl
          · cases hx; cases hy; rfl
          · cases hx; cases hy; rfl
          · cases hx; cases hy; rfl
          · cases hy; cases hx <;> rfl
          · cases hy; cases hx <;> rfl
          · simp at h
      · exact hdone
    simp only [Sem.run_bind, this, Result.andThen_ok, h1]

end
end Go.Proofs.YtmknkpcdfkpobaaA
