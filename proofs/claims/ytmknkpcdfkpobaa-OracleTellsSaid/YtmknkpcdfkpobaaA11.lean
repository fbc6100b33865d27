/- Operations with their types looked up (by the kernel, once), and calls. -/
import Derived.Test.YtmknkpcdfkpobaaA10
set_option linter.unusedVariables false
set_option linter.unusedSimpArgs false
namespace Go.Proofs.YtmknkpcdfkpobaaA
open Go.RowKit

/-! ### Connectives into which a simp doesn't look -/

/-- One of two ways, by a Bool. -/
def Branch (b : Bool) (A C : Prop) : Prop := (b = true → A) ∧ (b = false → C)
theorem Branch_true (A C : Prop) : Branch true A C = A := by simp [Branch]
theorem Branch_false (A C : Prop) : Branch false A C = C := by simp [Branch]
theorem Branch.mono {b : Bool} {A C A' C' : Prop} (h : Branch b A C) (h1 : A → A') (h2 : C → C') : Branch b A' C' := ⟨fun e => h1 (h.1 e), fun e => h2 (h.2 e)⟩
theorem Branch_congr {b b' : Bool} (A C : Prop) (h : b = b') : Branch b A C = Branch b' A C := by rw [h]

/-- A side condition, and what goes on. -/
def Side (p A : Prop) : Prop := p ∧ A
theorem Side.mono {p A A' : Prop} (h : Side p A) (h1 : A → A') : Side p A' := ⟨h.1, h1 h.2⟩
theorem Side_true (A : Prop) : Side True A = A := by simp [Side]
theorem Side_congr {p p' : Prop} (A : Prop) (h : p = p') : Side p A = Side p' A := by rw [h]

/-! ### Calls -/

/-- A call, told of abstract values: whatever the world is that is told of, the model's call returns, and what it returns and leaves is told of, too. -/
def ACalls (P : Program) (f : FuncId) (args : List Value) (H : AH) (Q : Value → AH → Prop) : Prop :=
  ∀ B ρ w (args' : Array Value), Sim B ρ H w → LR ρ args args'.toList →
    Calls P f args' w (fun e w' => ∃ v v' H' ρ', e = .returned v' ∧ Q v H' ∧ VR ρ' v v' ∧ Sim B ρ' H' w' ∧ RenLe ρ ρ' ∧ Below B w w')

theorem ACalls_congr {P : Program} {f : FuncId} {args args' : List Value} {H H' : AH} (Q : Value → AH → Prop) (h : args = args') (hH : H = H') : ACalls P f args H Q = ACalls P f args' H' Q := by rw [h, hH]

theorem okv_congr {o o' : Option Value} {H H' : AH} (K : Value → AH → Prop) (h : o = o') (hH : H = H') : okv o H K = okv o' H' K := by rw [h, hH]

theorem ACalls.mono {P : Program} {f : FuncId} {args : List Value} {H : AH} {Q Q' : Value → AH → Prop} (h : ACalls P f args H Q) (hq : ∀ v H', Q v H' → Q' v H') : ACalls P f args H Q' :=
  fun B ρ w args' hS hL => (h B ρ w args' hS hL).mono fun e w' ⟨v, v', H', ρ', h1, h2, h3⟩ => ⟨v, v', H', ρ', h1, hq _ _ h2, h3⟩

def callable (P : Program) (f : FuncId) : Bool :=
  match P.funcs[f]? with
  | some fn => fn.body.isSome && !(fn.name == "runtime.NumGoroutine")
  | none => false

theorem callable_run {P : Program} {f : FuncId} (h : callable P f = true) (args : Array Value) (w : World) : (callFunc f args).run P w = .ok (.enter f args) w := by
  unfold callable at h
  unfold callFunc
  split at h
  · rename_i fn hf
    rw [Bool.and_eq_true, Bool.not_eq_true'] at h
    obtain ⟨b, hb⟩ := Option.isSome_iff_exists.1 h.1
    simp only [Sem.run_bind, run_program, Result.andThen_ok, hf, h.2, Bool.false_eq_true, if_false, hb, Option.isNone_some, Sem.run_pure]
  · simp at h

/-- A method of an interface's value, where it is one of its own: the function, and what it is called with. -/
def amethod (P : Program) (t : TypeId) (v : Value) (name : String) : Option FuncId :=
  match P.info? t with
  | some inf =>
    match inf.methods.find? (·.name == name) with
    | some m =>
      if m.path.toList = [] then
        match m.func, P.underlying t with
        | some (f, true), some (.pointer _) => some f
        | some (f, false), some (.pointer _) => none
        | some (f, false), some _ => some f
        | _, _ => none
      else none
    | none => none
  | none => none

theorem amethod_run {P : Program} {t : TypeId} {v v' : Value} {name : String} {f : FuncId} (h : amethod P t v name = some f) (n : Nat) (w : World) : (method (n + 1) t v' name).run P w = .ok (f, v') w := by
  unfold amethod at h
  split at h
  · rename_i inf hinf
    split at h
    · rename_i m hm
      split at h
      · rename_i hp
        have hp' : m.path.isEmpty = true := by
          have : m.path = #[] := by apply Array.ext'; simpa using hp
          rw [this]; rfl
        unfold method
        split at h
        · rename_i g e hg hu
          simp only [Option.some.injEq] at h; subst h
          simp only [Sem.run_bind, run_typeInfo w hinf, Result.andThen_ok, hm, hp, follow, Sem.run_pure, hg, receiverAt, run_underlying hu, Place.get]
        · simp at h
        · rename_i g d hne hg hu
          simp only [Option.some.injEq] at h; subst h
          simp only [Sem.run_bind, run_typeInfo w hinf, Result.andThen_ok, hm, hp, follow, Sem.run_pure, hg, receiverAt, run_underlying hu]
          cases d <;> first | exact absurd rfl (hne _) | simp [Place.get]
        · simp at h
      · simp at h
    · simp at h
  · simp at h

/-- Which function a call is of, and with what it is called. -/
def acallee (P : Program) (ev : Operand → Value) (c : Call) : Option (FuncId × List Value) :=
  match c.callee with
  | .value f =>
    match ev f with
    | .func (.func g) first captured => some (g, first.toList ++ c.args.toList.map ev ++ captured.toList)
    | _ => none
  | .invoke r name =>
    match ev r with
    | .iface t v => (amethod P t v name).map fun g => (g, v :: c.args.toList.map ev)
    | _ => none
  | .builtin _ => none

theorem acallee_ext {P : Program} {ρ : Ren} {env : List Value} {a : Act} {f : Operand} {c : Call} {ty : TypeId} {g : FuncId} {l : List Value} (h : acallee P (evalL env) c = some (g, l)) (hf : c.callee = .value f)
    (hE : LR ρ env a.tmps.toList) (w : World) :
    ∃ l' : Array Value, LR ρ l l'.toList ∧ ((do let d ← resolve a.eval c ty; invoke d.target d.args : Sem Next).run P w) = (callFunc g l').run P w := by
  unfold acallee at h
  have hargs := LR.evals hE c.args
  rw [hf] at h
  dsimp only at h
  split at h
  · rename_i g' first captured hv
    simp only [Option.some.injEq, Prod.mk.injEq] at h
    obtain ⟨rfl, rfl⟩ := h
    have hV := VR.eval hE f
    rw [hv] at hV
    generalize hfv : a.eval f = fv at hV
    cases hV with
    | func fn h0 h1 h2 h3 h4 =>
      rename_i first' captured'
      refine ⟨first' ++ c.args.map a.eval ++ captured', ?_, ?_⟩
      · simp only [Array.toList_append]
        exact ((LR.of_arr h1 h2).append hargs).append (LR.of_arr h3 h4)
      · simp only [resolve, hf, hfv, Sem.run_bind, Deferred.ofValue, Sem.run_pure, Result.andThen_ok, invoke]
  · simp at h

theorem acallee_run {P : Program} {ρ : Ren} {env : List Value} {a : Act} {c : Call} {ty : TypeId} {g : FuncId} {l : List Value} (h : acallee P (evalL env) c = some (g, l)) (hc : callable P g = true)
    (hE : LR ρ env a.tmps.toList) (w : World) :
    ∃ l' : Array Value, LR ρ l l'.toList ∧ ((do let d ← resolve a.eval c ty; invoke d.target d.args : Sem Next).run P w) = .ok (.enter g l') w := by
  unfold acallee at h
  have hargs := LR.evals hE c.args
  split at h
  · rename_i f hf
    split at h
    · rename_i g' first captured hv
      simp only [Option.some.injEq, Prod.mk.injEq] at h
      obtain ⟨rfl, rfl⟩ := h
      have hV := VR.eval hE f
      rw [hv] at hV
      generalize hfv : a.eval f = fv at hV
      cases hV with
      | func fn h0 h1 h2 h3 h4 =>
        rename_i first' captured'
        refine ⟨first' ++ c.args.map a.eval ++ captured', ?_, ?_⟩
        · simp only [Array.toList_append]
          exact ((LR.of_arr h1 h2).append hargs).append (LR.of_arr h3 h4)
        · simp only [resolve, hf, hfv, Sem.run_bind, Deferred.ofValue, Sem.run_pure, Result.andThen_ok, invoke, callable_run hc]
    · simp at h
  · rename_i r name hf
    split at h
    · rename_i t v hv
      simp only [Option.map_eq_some_iff] at h
      obtain ⟨g', hg, he⟩ := h
      simp only [Prod.mk.injEq] at he
      obtain ⟨rfl, rfl⟩ := he
      have hV := VR.eval hE r
      rw [hv] at hV
      generalize hfv : a.eval r = fv at hV
      cases hV with
      | iface _ hvv =>
        rename_i v'
        refine ⟨#[v'] ++ c.args.map a.eval, ?_, ?_⟩
        · rw [Array.toList_append]
          exact ⟨hvv, hargs⟩
        · have hm : ∀ w, (method (P.types.size + Made.depth) t v' name).run P w = .ok (g', v') w := fun w => by
            have hpos : ∃ n, P.types.size + Made.depth = n + 1 := ⟨P.types.size + Made.depth - 1, by
              have : 0 < Made.depth := by decide
              omega⟩
            obtain ⟨n, hn⟩ := hpos
            rw [hn]; exact amethod_run hg n w
          have hx : (#[Value.iface t v'] ++ c.args.map a.eval).extract 1 (#[Value.iface t v'] ++ c.args.map a.eval).size = c.args.map a.eval := by
            apply Array.ext'
            simp only [Array.toList_extract, List.extract, Array.toList_append, Array.toList_map, Array.size_append, Array.size_map]
            simp only [List.drop_append]
            rw [List.take_of_length_le (by simp)]
            simp
          have h0 : (#[Value.iface t v'] ++ c.args.map a.eval)[0]? = some (.iface t v') := by rw [Array.getElem?_append, if_pos (by simp)]; rfl
          have hinv : (invoke (.fn (.method name) #[]) (#[Value.iface t v'] ++ c.args.map a.eval)).run P w = .ok (.enter g' (#[v'] ++ c.args.map a.eval)) w := by
            unfold invoke
            simp only [h0, hx, callMethod, Sem.run_bind, run_program, Result.andThen_ok, hm, callable_run hc]
          simp only [resolve, hf, hfv, Sem.run_bind, Sem.run_pure, Result.andThen_ok]
          exact hinv
    · simp at h
  · simp at h

/-- A call of a function without a body: what the model's entry does. -/
def AExt (P : Program) (f : FuncId) (args : List Value) (H : AH) (K : Value → AH → Prop) : Prop :=
  ∀ B ρ w (args' : Array Value), Sim B ρ H w → LR ρ args args'.toList → Good B ρ w K ((callFunc f args').run P w)

theorem AExt.mono {P : Program} {f : FuncId} {args : List Value} {H : AH} {K K' : Value → AH → Prop} (h : AExt P f args H K) (hk : ∀ v H', K v H' → K' v H') : AExt P f args H K' := by
  intro B ρ w args' hS hL
  obtain ⟨v, v', H', ρ', w', h1, h2, h3, h4⟩ := h B ρ w args' hS hL
  exact ⟨v, v', H', ρ', w', h1, h2, hk _ _ h3, h4⟩

/-- An operation, calls of functions too. -/
def aopc (P : Program) (ev : Operand → Value) (o : Op) (H : AH) (K : Value → AH → Prop) : Prop :=
  match o with
  | .call c =>
    match c.callee with
    | .builtin _ => aop P ev o H K
    | .value _ =>
      match acallee P ev c with
      | some (g, args) => if callable P g = true then ACalls P g args H K else AExt P g args H K
      | none => False
    | .invoke _ _ =>
      match acallee P ev c with
      | some (g, args) => callable P g = true ∧ ACalls P g args H K
      | none => False
  | _ => aop P ev o H K

/-! ### Operands and operations, resolved -/

inductive RX where
  | t (n : Nat)
  | c (v : Value)

def RX.ev (env : List Value) : RX → Value
  | .t n => env.getD n undef
  | .c v => v

def compX : Operand → RX
  | .tmp t => .t t
  | .const v => .c (constV v)
  | .global _ => .c unk
  | .func f => .c (.func (.func f) #[] #[])

theorem compX_ev (env : List Value) (x : Operand) : (compX x).ev env = evalL env x := by cases x <;> rfl

inductive ROp where
  | raw (o : Op)
  | move (x : RX)
  | pick (c a b : RX)
  | load1 (a : RX)
  | loadN (n : Nat) (a : RX)
  | store (n : Nat) (a x : RX)
  | addr (a : RX) (k : Nat)
  | elemS (sz : Nat) (x i : RX)
  | elemA (len sz : Nat) (x i : RX)
  | fld1 (x : RX) (off : Nat)
  | fldN (x : RX) (off n : Nat)
  | lenS (x : RX)
  | lenSl (x : RX)
  | extract (x : RX) (i : Nat)
  | int (op : BinOp) (x y : RX)
  | not (x : RX)
  | alloc (z : List Value)
  | box (x : RX)
  | iface (t : TypeId) (x : RX)
  | nilCheck (x : RX)
  | call (f : FuncId) (args : List RX)
  | ext (f : FuncId) (args : List RX)
  | cap (x : RX)
  | nilv (k : Nat) (ne : Bool) (x : RX)
  | cvt (k : IntKind) (x : RX)
  | cvs (x : RX)
  | bit (op : BinOp) (x y : RX)
  | bb (ne : Bool) (x y : RX)
  | eqA (ne : Bool) (ks : List LK) (x y : RX)
  | mm (mx : Bool) (x y : RX)
  | slA (n sz : Nat) (x : RX) (lo hi : Option RX)
  | callv (f : RX) (args : List RX)
  | inv (r : RX) (name : String) (args : List RX)
  | tass (x : RX) (xT t : TypeId) (ok : Bool)
  | mkf (fn : Fn) (first captured : List RX)
  | copy (sz : Nat) (d x : RX)
  | clear (z : List Value) (x : RX)
  | neg (x : RX)
  | quo (rem : Bool) (x y : RX)
  | app (z : List Value) (bytes : Nat) (s x : RX)
  | appz (z : List Value) (bytes : Nat) (s x : RX)
  | bsl (z : List Value) (sz len : Nat) (parts : List (Nat × RX))
  | build (z : List Value) (places : List (Nat × Nat)) (parts : List (Nat × RX))
  | sl (sz : Nat) (x : RX) (lo hi mx : Option RX)
  | mks (z : List Value) (bytes : Nat) (l c : RX)

def rload1 (H : AH) (b o : Nat) : Option Value :=
  match H.blk b with
  | some (.cells cs _) => cs[o]?
  | _ => none

def rloadN (H : AH) (n b o : Nat) : Option Value :=
  match H.blk b with
  | some (.cells cs _) => if o + n ≤ cs.length then some (.agg ((cs.drop o).take n).toArray) else none
  | _ => none

def rstore (H : AH) (n b o : Nat) (v : Value) (K : AH → Prop) : Prop :=
  match H.blk b with
  | some (.cells cs true) => Side ((cellsL v).length = n ∧ (cellsL v).all okCell = true ∧ o + n ≤ cs.length) (K (H.set b (.cells (splice cs o (cellsL v)) true)))
  | _ => False

def rfld1 (x : Value) (off : Nat) : Option Value :=
  match x with
  | .agg cs => cs.toList[off]?
  | _ => none

def rfldN (x : Value) (off n : Nat) : Option Value :=
  match x with
  | .agg cs => if off + n ≤ cs.toList.length then some (.agg ((cs.toList.drop off).take n).toArray) else none
  | _ => none

def rint (op : BinOp) (x y : Value) : Option Value :=
  match x, y with
  | .int k a, .int k' b =>
    if k = k' then
      match op with
      | .add => some (.int k (k.wrap (a + b)))
      | .sub => some (.int k (k.wrap (a - b)))
      | .mul => some (.int k (k.wrap (a * b)))
      | .eql => some (.bool (decide (a = b)))
      | .neq => some (.bool (!decide (a = b)))
      | .lss => some (.bool (decide (a < b)))
      | .leq => some (.bool (decide (a ≤ b)))
      | .gtr => some (.bool (decide (b < a)))
      | .geq => some (.bool (decide (b ≤ a)))
      | _ => none
    else none
  | _, _ => none

def raddr (x : Value) (k : Nat) : Option Value :=
  match x with
  | .pointer (some ⟨b, o, none⟩) => some (.pointer (some ⟨b, o + k, none⟩))
  | .func (.method _) cs _ => some (FP (cs.toList.drop k))
  | _ => none

def rlenS (x : Value) : Option Value :=
  match x with
  | .string s => some (.int .i64 s.size)
  | _ => none

def rlenSl (x : Value) : Option Value :=
  match x with
  | .slice _ n _ => some (.int .i64 n)
  | .func (.methodOf n _) _ _ => some (.int .i64 n)
  | _ => none

def relem (x : Value) (len sz : Nat) (i : Value) (H : AH) (K : Value → AH → Prop) : Prop :=
  match x, i with
  | .pointer (some ⟨b, o, _⟩), .int _ i => Side (0 ≤ i ∧ i < len) (K (.pointer (some ⟨b, o + i.toNat * sz, none⟩)) H)
  | .func (.method _) cs _, .int _ i => Side (0 ≤ i ∧ i < len) (K (FP (cs.toList.drop (i.toNat * sz))) H)
  | _, _ => False

def base : Value → Value
  | .slice (some a) _ _ => .pointer (some a)
  | .func (.methodOf _ _) cs _ => FP cs.toList
  | _ => unk

def slen : Value → Nat
  | .slice _ n _ => n
  | .func (.methodOf n _) _ _ => n
  | _ => 0

def baseA : Value → Value
  | .pointer (some ⟨b, o, none⟩) => .pointer (some ⟨b, o, none⟩)
  | .func (.method _) cs _ => FP cs.toList
  | _ => unk

def rneg (x : Value) : Option Value :=
  match x with
  | .int k n => some (.int k (k.wrap (0 - n)))
  | _ => none

def rquo (rem : Bool) (x y : Value) (H : AH) (K : Value → AH → Prop) : Prop :=
  match x, y with
  | .int k a, .int k' b => Side (k = k' ∧ b ≠ 0) (K (.int k (if rem then a.tmod b else k.wrap (a.tdiv b))) H)
  | _, _ => False

def rgrow (z : List Value) (bytes len n : Nat) (s : Value) (new : List Value) (H : AH) (K : Value → AH → Prop) : Prop :=
  match acells H z.length len s with
  | some old => Side ((len + n) * bytes ≤ 140737488355328) (∀ c, len + n ≤ c → c ≤ 9223372036854775807 → K (.slice (some ⟨H.next, 0, some 0⟩) (len + n) c) (H.alloc (.cells (old ++ new ++ zrow z (c - (len + n))) true)))
  | none => False

def rapp (z : List Value) (bytes : Nat) (s x : Value) (H : AH) (K : Value → AH → Prop) : Prop :=
  match alen x with
  | none => False
  | some n =>
    match acells H z.length n x with
    | none => False
    | some new =>
      match s with
      | .slice none 0 0 => if n = 0 then K (.slice none 0 0) H else rgrow z bytes 0 n s new H K
      | .slice (some ⟨b, o, some 0⟩) len cap =>
        if n = 0 then len ≤ cap ∧ K s H
        else if len + n ≤ cap then
          match H.blk b with
          | some (.cells cs true) => o + len * z.length + new.length ≤ cs.length ∧ K (.slice (some ⟨b, o, some 0⟩) (len + n) cap) (H.set b (.cells (splice cs (o + len * z.length) new) true))
          | _ => False
        else rgrow z bytes len n s new H K
      | _ => False

/-- append of so many zeros, where it makes a new row. -/
def rappz (z : List Value) (bytes : Nat) (s x : Value) (H : AH) (K : Value → AH → Prop) : Prop :=
  match x, s with
  | .int .i64 n, .slice (some ⟨_, _, some 0⟩) len cap => Side (0 ≤ n ∧ cap < len + n.toNat) (rgrow z bytes len n.toNat s (zrow z n.toNat) H K)
  | _, _ => False

def rnil (k : Nat) (ne : Bool) (x : Value) : Option Value :=
  match k, x with
  | 0, .slice a _ _ => some (.bool (if ne then a.isSome else a.isNone))
  | 1, .pointer a => some (.bool (if ne then a.isSome else a.isNone))
  | 2, .iface _ _ => some (.bool ne)
  | 2, .nilIface => some (.bool (!ne))
  | _, _ => none

def rcvt (k : IntKind) (x : Value) : Option Value :=
  match x with
  | .int _ n => some (.int k (k.wrap n))
  | _ => none

def rcvs (x : Value) : Option Value :=
  match x with
  | .string s => some (.string s)
  | _ => none

def rbit (op : BinOp) (x y : Value) : Option Value :=
  match x, y with
  | .int k a, .int k' b =>
    match op with
    | .and => if k = k' then some (.int k (k.wrap (BitVec.ofInt k.bits a &&& BitVec.ofInt k.bits b).toNat)) else none
    | .or => if k = k' then some (.int k (k.wrap (BitVec.ofInt k.bits a ||| BitVec.ofInt k.bits b).toNat)) else none
    | .xor => if k = k' then some (.int k (k.wrap (BitVec.ofInt k.bits a ^^^ BitVec.ofInt k.bits b).toNat)) else none
    | .andNot => if k = k' then some (.int k (k.wrap (BitVec.ofInt k.bits a &&& ~~~BitVec.ofInt k.bits b).toNat)) else none
    | .shl => if 0 ≤ b then some (.int k (k.wrap (a * 2 ^ (min b.toNat k.bits)))) else none
    | .shr => if 0 ≤ b then some (.int k (a.fdiv (2 ^ (min b.toNat k.bits)))) else none
    | _ => none
  | _, _ => none

def rbb (ne : Bool) (x y : Value) : Option Value :=
  match x, y with
  | .bool a, .bool b => some (.bool (if ne then !(a == b) else a == b))
  | _, _ => none

def rcopy (sz : Nat) (d x : Value) (H : AH) (K : Value → AH → Prop) : Prop :=
  match alen x with
  | some n =>
    match d with
    | .slice none 0 0 => K (.int .i64 0) H
    | .slice (some ⟨b, o, _⟩) len _ =>
      if Nat.min n len = 0 then K (.int .i64 0) H
      else match acells H sz (Nat.min n len) x, H.blk b with
        | some l, some (.cells cs true) => o + l.length ≤ cs.length ∧ K (.int .i64 (Nat.min n len)) (H.set b (.cells (splice cs o l) true))
        | _, _ => False
    | _ => False
  | none => False

def rclear (z : List Value) (x : Value) (H : AH) (K : Value → AH → Prop) : Prop :=
  match x with
  | .slice none 0 0 => K undef H
  | .slice (some ⟨b, o, _⟩) n _ =>
    if n = 0 then K undef H
    else match H.blk b with
      | some (.cells cs true) => o + (zrow z n).length ≤ cs.length ∧ K undef (H.set b (.cells (splice cs o (zrow z n)) true))
      | _ => False
  | _ => False

def rcap (x : Value) : Option Value :=
  match x with
  | .slice none 0 0 => some (.int .i64 0)
  | .slice (some ⟨_, _, some 0⟩) _ c => some (.int .i64 c)
  | _ => none

def rbsl (z : List Value) (sz len : Nat) (parts : List (Nat × Value)) (H : AH) (K : Value → AH → Prop) : Prop :=
  match afill (fun i => some (i * sz, sz)) (zrow z len) parts with
  | some l => Side (l.all okCell = true) (zK l (.slice (some ⟨H.next, 0, some 0⟩) len len) (FS l len) H K)
  | none => False

def rbuild (z : List Value) (places : List (Nat × Nat)) (parts : List (Nat × Value)) : Option Value :=
  (afill (places[·]?) z parts).map fun l => .agg l.toArray

def rbnd (v : Option Value) (d : Int) : Option Int :=
  match v with
  | none => some d
  | some (.int _ i) => some i
  | some _ => none

def rsl (sz : Nat) (x : Value) (lo hi mx : Option Value) (H : AH) (K : Value → AH → Prop) : Prop :=
  match x with
  | .slice none 0 0 =>
    match rbnd lo 0, rbnd hi 0, mx with
    | some l, some h, none => Side (l = 0 ∧ h = 0) (K (.slice none 0 0) H)
    | _, _, _ => False
  | .slice (some ⟨b, o, some 0⟩) len cap =>
    match rbnd lo 0, rbnd hi len, rbnd mx cap with
    | some l, some h, some m => Side (0 ≤ l ∧ l ≤ h ∧ h ≤ m ∧ m ≤ cap ∧ (mx.isSome = true → hi.isSome = true)) (K (.slice (some ⟨b, o + l.toNat * sz, some 0⟩) (h.toNat - l.toNat) (m.toNat - l.toNat)) H)
    | _, _, _ => False
  | .func (.methodOf len _) cs _ =>
    match rbnd lo 0, rbnd hi len, mx with
    | some l, some h, none => Side (0 ≤ l ∧ l ≤ h ∧ h ≤ len) (K (FS ((cs.toList.drop (l.toNat * sz)).take ((h.toNat - l.toNat) * sz)) (h.toNat - l.toNat)) H)
    | _, _, _ => False
  | _ => False

def rmks (z : List Value) (bytes : Nat) (l c : Value) (H : AH) (K : Value → AH → Prop) : Prop :=
  match l, c with
  | .int _ l, .int _ c => Side (0 ≤ l ∧ l ≤ c ∧ c ≤ 9223372036854775807 ∧ bytes * c ≤ 281474976710656) (K (.slice (some ⟨H.next, 0, some 0⟩) l.toNat c.toNat) (H.alloc (.cells (zrow z c.toNat) true)))
  | _, _ => False

def rslA (n sz : Nat) (x : Value) (lo hi : Option Value) (H : AH) (K : Value → AH → Prop) : Prop :=
  match x, rbnd lo 0, rbnd hi n with
  | .pointer (some ⟨b, o, none⟩), some l, some h => Side (0 ≤ l ∧ l ≤ h ∧ h ≤ n) (K (.slice (some ⟨b, o + l.toNat * sz, some 0⟩) (h.toNat - l.toNat) (n - l.toNat)) H)
  | .func (.method _) cs _, some l, some h => Side (0 ≤ l ∧ l ≤ h ∧ h ≤ n) (K (FS ((cs.toList.drop (l.toNat * sz)).take ((h.toNat - l.toNat) * sz)) (h.toNat - l.toNat)) H)
  | _, _, _ => False

/-- A call of a function value. -/
def rcallv (P : Program) (f : Value) (args : List Value) (H : AH) (K : Value → AH → Prop) : Prop :=
  match f with
  | .func (.func g) first captured => callable P g = true ∧ ACalls P g (first.toList ++ args ++ captured.toList) H K
  | _ => False

/-- A call by an interface. -/
def rinv (P : Program) (r : Value) (name : String) (args : List Value) (H : AH) (K : Value → AH → Prop) : Prop :=
  match r with
  | .iface t v => ∃ g, amethod P t v name = some g ∧ callable P g = true ∧ ACalls P g (v :: args) H K
  | _ => False

def rop (P : Program) (env : List Value) (r : ROp) (H : AH) (K : Value → AH → Prop) : Prop :=
  match r with
  | .raw o => aopc P (evalL env) o H K
  | .move x => K (x.ev env) H
  | .pick c a b =>
    match c.ev env with
    | .bool t => Branch t (K (a.ev env) H) (K (b.ev env) H)
    | _ => False
  | .load1 a =>
    match a.ev env with
    | .pointer (some ⟨b, o, none⟩) => okv (rload1 H b o) H K
    | .func (.method _) cs _ => okv (cs.toList[0]?) H K
    | _ => False
  | .loadN n a =>
    match a.ev env with
    | .pointer (some ⟨b, o, none⟩) => okv (rloadN H n b o) H K
    | .func (.method _) cs _ => okv (if n ≤ cs.toList.length then some (.agg (cs.toList.take n).toArray) else none) H K
    | _ => False
  | .store n a x =>
    match a.ev env with
    | .pointer (some ⟨b, o, none⟩) => rstore H n b o (x.ev env) (K undef)
    | _ => False
  | .addr x k => okv (raddr (x.ev env) k) H K
  | .elemS sz x i => relem (base (x.ev env)) (slen (x.ev env)) sz (i.ev env) H K
  | .elemA len sz x i => relem (baseA (x.ev env)) len sz (i.ev env) H K
  | .fld1 x off => okv (rfld1 (x.ev env) off) H K
  | .fldN x off n => okv (rfldN (x.ev env) off n) H K
  | .lenS x => okv (rlenS (x.ev env)) H K
  | .lenSl x => okv (rlenSl (x.ev env)) H K
  | .extract x i => okv (aextract (x.ev env) i) H K
  | .int op x y => okv (rint op (x.ev env) (y.ev env)) H K
  | .not x =>
    match x.ev env with
    | .bool b => K (.bool (!b)) H
    | _ => False
  | .alloc z => anew H z K
  | .box x => abox H (cellsL (x.ev env)) K
  | .iface t x => K (.iface t (x.ev env)) H
  | .nilCheck x => nonNil (x.ev env) = true ∧ K (x.ev env) H
  | .call f args => ACalls P f (args.map (·.ev env)) H K
  | .neg x => okv (rneg (x.ev env)) H K
  | .quo rem x y => rquo rem (x.ev env) (y.ev env) H K
  | .app z bytes s x => rapp z bytes (s.ev env) (x.ev env) H K
  | .appz z bytes s x => rappz z bytes (s.ev env) (x.ev env) H K
  | .ext f args => AExt P f (args.map (·.ev env)) H K
  | .cap x => okv (rcap (x.ev env)) H K
  | .nilv k ne x => okv (rnil k ne (x.ev env)) H K
  | .cvt k x => okv (rcvt k (x.ev env)) H K
  | .cvs x => okv (rcvs (x.ev env)) H K
  | .bit op x y => okv (rbit op (x.ev env) (y.ev env)) H K
  | .bb ne x y => okv (rbb ne (x.ev env) (y.ev env)) H K
  | .eqA ne ks x y => okv (reqA ne ks (x.ev env) (y.ev env)) H K
  | .mm mx x y => okv (amm2 mx (x.ev env) (y.ev env)) H K
  | .slA n sz x lo hi => rslA n sz (x.ev env) (lo.map (·.ev env)) (hi.map (·.ev env)) H K
  | .callv f args => rcallv P (f.ev env) (args.map (·.ev env)) H K
  | .inv r name args => rinv P (r.ev env) name (args.map (·.ev env)) H K
  | .tass x xT t ok => okv (aassert P (x.ev env) xT t ok) H K
  | .mkf fn first captured => fnOk fn = true ∧ K (.func fn (first.map (·.ev env)).toArray (captured.map (·.ev env)).toArray) H
  | .copy sz d x => rcopy sz (d.ev env) (x.ev env) H K
  | .clear z x => rclear z (x.ev env) H K
  | .bsl z sz len parts => rbsl z sz len (parts.map fun p => (p.1, p.2.ev env)) H K
  | .build z places parts => okv (rbuild z places (parts.map fun p => (p.1, p.2.ev env))) H K
  | .sl sz x lo hi mx => rsl sz (x.ev env) (lo.map (·.ev env)) (hi.map (·.ev env)) (mx.map (·.ev env)) H K
  | .mks z bytes l c => rmks z bytes (l.ev env) (c.ev env) H K

def sz? (P : Program) (t : TypeId) : Option Nat := if (P.info? t).isSome then some (P.cellsOf t) else none

theorem sz?_some {P : Program} {t : TypeId} {n : Nat} (h : sz? P t = some n) : (P.info? t).isSome = true ∧ P.cellsOf t = n := by
  unfold sz? at h
  split at h
  · simp only [Option.some.injEq] at h; exact ⟨by assumption, h⟩
  · simp at h

/-- Where a struct's, or an array's, parts lie. -/
def bplaces (P : Program) (t : TypeId) : Option (List (Nat × Nat)) :=
  match P.underlying t with
  | some (.array n e) => (sz? P e).map fun sz => (List.range n).map fun i => (i * sz, sz)
  | _ => aplaces P t

def compOp (P : Program) (o : Op) : ROp :=
  match o with
  | .move x => .move (compX x)
  | .assign x => .move (compX x)
  | .pick c a b => .pick (compX c) (compX a) (compX b)
  | .load t a =>
    match aggT P t with
    | some true => .loadN (P.cellsOf t) (compX a)
    | some false => .load1 (compX a)
    | none => .raw o
  | .store t a x => if (P.underlying t).isSome then .store (P.cellsOf t) (compX a) (compX x) else .raw o
  | .fieldAddr t x f =>
    match P.underlying t with
    | some (.struct fields) =>
      match fields[f]? with
      | some fd =>
        match sz? P fd.type with
        | some (_ + 1) => .addr (compX x) fd.offset
        | _ => .raw o
      | none => .raw o
    | _ => .raw o
  | .indexAddr t x i =>
    match P.underlying t with
    | some (.slice e) => match sz? P e with | some n => .elemS n (compX x) (compX i) | none => .raw o
    | some (.array len e) => match sz? P e with | some n => .elemA len n (compX x) (compX i) | none => .raw o
    | _ => .raw o
  | .field t x f =>
    match P.underlying t with
    | some (.struct fields) =>
      match fields[f]? with
      | some fd =>
        match aggT P fd.type with
        | some true => .fldN (compX x) fd.offset (P.cellsOf fd.type)
        | some false => .fld1 (compX x) fd.offset
        | none => .raw o
      | none => .raw o
    | _ => .raw o
  | .extract x i => .extract (compX x) i
  | .binOp op t x y _ =>
    match P.underlying t, op with
    | some (.int _), .add => .int .add (compX x) (compX y)
    | some (.int _), .sub => .int .sub (compX x) (compX y)
    | some (.int _), .mul => .int .mul (compX x) (compX y)
    | some (.int _), .eql => .int .eql (compX x) (compX y)
    | some (.int _), .neq => .int .neq (compX x) (compX y)
    | some (.int _), .lss => .int .lss (compX x) (compX y)
    | some (.int _), .leq => .int .leq (compX x) (compX y)
    | some (.int _), .gtr => .int .gtr (compX x) (compX y)
    | some (.int _), .geq => .int .geq (compX x) (compX y)
    | some (.int _), .quo => .quo false (compX x) (compX y)
    | some (.int _), .rem => .quo true (compX x) (compX y)
    | some (.int _), .and => .bit .and (compX x) (compX y)
    | some (.int _), .or => .bit .or (compX x) (compX y)
    | some (.int _), .xor => .bit .xor (compX x) (compX y)
    | some (.int _), .andNot => .bit .andNot (compX x) (compX y)
    | some (.int _), .shl => .bit .shl (compX x) (compX y)
    | some (.int _), .shr => .bit .shr (compX x) (compX y)
    | some .bool, .eql => .bb false (compX x) (compX y)
    | some .bool, .neq => .bb true (compX x) (compX y)
    | some (.struct _), .eql => match eqKinds P t with | some ks => .eqA false ks (compX x) (compX y) | none => .raw o
    | some (.struct _), .neq => match eqKinds P t with | some ks => .eqA true ks (compX x) (compX y) | none => .raw o
    | some (.array _ _), .eql => match eqKinds P t with | some ks => .eqA false ks (compX x) (compX y) | none => .raw o
    | some (.array _ _), .neq => match eqKinds P t with | some ks => .eqA true ks (compX x) (compX y) | none => .raw o
    | some (.slice _), .eql => match y with | .const (.slice none 0 0) => .nilv 0 false (compX x) | _ => .raw o
    | some (.slice _), .neq => match y with | .const (.slice none 0 0) => .nilv 0 true (compX x) | _ => .raw o
    | some (.pointer _), .eql => match y with | .const (.pointer none) => .nilv 1 false (compX x) | _ => .raw o
    | some (.pointer _), .neq => match y with | .const (.pointer none) => .nilv 1 true (compX x) | _ => .raw o
    | some (.interface _), .eql => match y with | .const .nilIface => .nilv 2 false (compX x) | _ => .raw o
    | some (.interface _), .neq => match y with | .const .nilIface => .nilv 2 true (compX x) | _ => .raw o
    | _, _ => .raw o
  | .convert s d x =>
    match (P.underlying s).isSome, P.underlying d with
    | true, some (.int k) => .cvt k (compX x)
    | true, some .string => .cvs (compX x)
    | _, _ => .raw o
  | .unOp .not _ x => .not (compX x)
  | .unOp .neg _ x => .neg (compX x)
  | .alloc t => match azero P t with | some z => .alloc z | none => .raw o
  | .box _ x => .box (compX x)
  | .makeInterface t x =>
    match P.underlying t with
    | some (.interface _) => .raw o
    | some _ => .iface t (compX x)
    | none => .raw o
  | .nilCheck x => .nilCheck (compX x)
  | .call { callee := .value (.func f), args, argTypes } => if callable P f then .call f (args.toList.map compX) else .ext f (args.toList.map compX)
  | .call { callee := .value f, args, argTypes } => .callv (compX f) (args.toList.map compX)
  | .call { callee := .invoke r name, args, argTypes } => .inv (compX r) name (args.toList.map compX)
  | .typeAssert x xT t ok => .tass (compX x) xT t ok
  | .makeFunc fn first captured => .mkf fn (first.toList.map compX) (captured.toList.map compX)
  | .call { callee := .builtin .len, args, argTypes } =>
    match args.toList, (argTypes[0]?).bind P.underlying with
    | [x], some (.slice _) => .lenSl (compX x)
    | [x], some .string => .lenS (compX x)
    | _, _ => .raw o
  | .call { callee := .builtin .min, args, argTypes } =>
    match args.toList with
    | [x, y] => .mm false (compX x) (compX y)
    | _ => .raw o
  | .call { callee := .builtin .max, args, argTypes } =>
    match args.toList with
    | [x, y] => .mm true (compX x) (compX y)
    | _ => .raw o
  | .call { callee := .builtin .cap, args, argTypes } =>
    match args.toList, (argTypes[0]?).bind P.underlying with
    | [x], some (.slice _) => .cap (compX x)
    | _, _ => .raw o
  | .call { callee := .builtin .copy, args, argTypes } =>
    match args.toList, (argTypes[0]?).bind (elemOf? P) with
    | [d, x], some elem => if (P.info? elem).isSome = true then .copy (P.cellsOf elem) (compX d) (compX x) else .raw o
    | _, _ => .raw o
  | .call { callee := .builtin .clear, args, argTypes } =>
    match args.toList, (argTypes[0]?).bind (elemOf? P) with
    | [x], some elem =>
      match azero P elem with
      | some z => if z.all okCell = true then .clear z (compX x) else .raw o
      | none => .raw o
    | _, _ => .raw o
  | .call { callee := .builtin .append, args, argTypes } =>
    match args.toList, (argTypes[0]?).bind (elemOf? P), (argTypes[1]?).bind P.underlying with
    | [s, x], some elem, some d =>
      match azero P elem with
      | some z =>
        match d with
        | .int _ => if z.length = P.cellsOf elem ∧ P.bytesOf elem ≠ 0 ∧ (P.info? elem).isSome = true ∧ z.all okCell = true then .appz z (P.bytesOf elem) (compX s) (compX x) else .raw o
        | _ => if z.length = P.cellsOf elem ∧ P.bytesOf elem ≠ 0 ∧ (P.info? elem).isSome = true ∧ z.all okCell = true then .app z (P.bytesOf elem) (compX s) (compX x) else .raw o
      | none => .raw o
    | _, _, _ => .raw o
  | .buildSlice t len parts =>
    match elemOf? P t with
    | some elem =>
      match azero P elem with
      | some z => if z.length = P.cellsOf elem ∧ len * P.cellsOf elem ≤ 2 ^ 24 then .bsl z (P.cellsOf elem) len (parts.toList.map fun p => (p.1, compX p.2)) else .raw o
      | none => .raw o
    | none => .raw o
  | .build t parts =>
    match azero P t, bplaces P t with
    | some z, some pl => .build z pl (parts.toList.map fun p => (p.1, compX p.2))
    | _, _ => .raw o
  | .slice t x lo hi mx =>
    match P.underlying t with
    | some (.slice e) => match sz? P e with | some n => .sl n (compX x) (lo.map compX) (hi.map compX) (mx.map compX) | none => .raw o
    | some (.array n e) => match sz? P e, mx with | some sz, none => .slA n sz (compX x) (lo.map compX) (hi.map compX) | _, _ => .raw o
    | _ => .raw o
  | .makeSlice t l c =>
    match elemOf? P t with
    | some elem =>
      match azero P elem with
      | some z => if z.length = P.cellsOf elem ∧ z.all okCell = true then .mks z (P.bytesOf elem) (compX l) (compX c) else .raw o
      | none => .raw o
    | none => .raw o
  | _ => .raw o

theorem rgrow_ok {P : Program} {elem : TypeId} {len n : Nat} {s : Value} {new : List Value} {H : AH} {K : Value → AH → Prop} {z : List Value} (hz : azero P elem = some z) (h1 : z.length = P.cellsOf elem) (h2 : P.bytesOf elem ≠ 0)
    (h4 : z.all okCell = true) (h : rgrow z (P.bytesOf elem) len n s new H K) : agrow P elem len n s new H K := by
  unfold rgrow at h
  unfold agrow
  rw [h1] at h
  split at h
  · rename_i old ho
    simp only [ho, hz]
    exact ⟨h1, h4, h2, h.1, h.2⟩
  · exact h.elim

theorem rapp_ok {P : Program} {ats : Array TypeId} {elem : TypeId} {d : TypeDesc} {s x : Value} {H : AH} {K : Value → AH → Prop} {z : List Value} (ha : (ats[0]?).bind (elemOf? P) = some elem) (hd : (ats[1]?).bind P.underlying = some d)
    (hni : ∀ k, d ≠ .int k) (hz : azero P elem = some z) (h1 : z.length = P.cellsOf elem) (h2 : P.bytesOf elem ≠ 0) (h3 : (P.info? elem).isSome = true) (h4 : z.all okCell = true)
    (h : rapp z (P.bytesOf elem) s x H K) : aappend P ats s x H K := by
  unfold rapp at h
  unfold aappend
  rw [ha, hd]
  split at h
  · exact h.elim
  · rename_i n hn
    rw [hn]
    cases d with
    | int k => exact absurd rfl (hni k)
    | _ =>
      refine ⟨h3, ?_⟩
      rw [h1] at h
      split at h
      · exact h.elim
      · rename_i new hnew
        rw [hnew]
        split at h
        · show ite _ _ _
          split at h
          · rename_i h0; rw [if_pos h0]; exact h
          · rename_i h0; rw [if_neg h0]; exact rgrow_ok hz h1 h2 h4 h
        · show ite _ _ _
          split at h
          · rename_i h0; rw [if_pos h0]; exact h
          · rename_i h0; rw [if_neg h0]
            split at h
            · rename_i h0; rw [if_pos h0]; exact h
            · rename_i h0; rw [if_neg h0]; exact rgrow_ok hz h1 h2 h4 h
        · exact h.elim

theorem rappz_ok {P : Program} {ats : Array TypeId} {elem : TypeId} {k : IntKind} {s x : Value} {H : AH} {K : Value → AH → Prop} {z : List Value} (ha : (ats[0]?).bind (elemOf? P) = some elem) (hd : (ats[1]?).bind P.underlying = some (.int k))
    (hz : azero P elem = some z) (h1 : z.length = P.cellsOf elem) (h2 : P.bytesOf elem ≠ 0) (h3 : (P.info? elem).isSome = true) (h4 : z.all okCell = true)
    (h : rappz z (P.bytesOf elem) s x H K) : aappend P ats s x H K := by
  unfold rappz at h
  unfold aappend
  rw [ha, hd]
  split at h
  · show aappz P (some elem) _ _ H K
    unfold aappz
    simp only [hz]
    exact ⟨h.1.1, h3, h.1.2, rgrow_ok hz h1 h2 h4 h.2⟩
  · exact h.elim

theorem bnd_of_rbnd {v : Option Value} {d : Nat} {i : Int} (h : rbnd v d = some i) (h0 : 0 ≤ i) : bnd v d = some i.toNat := by
  unfold rbnd at h
  unfold bnd
  split at h
  · simp only [Option.some.injEq] at h; subst h; simp
  · simp only [Option.some.injEq] at h; subst h; dsimp only; rw [if_pos h0]
  · simp at h

theorem rsl_ok {P : Program} {t e : TypeId} {n : Nat} {x : Value} {lo hi mx : Option Value} {H : AH} {K : Value → AH → Prop} (hu : P.underlying t = some (.slice e)) (hn : sz? P e = some n)
    (h : rsl n x lo hi mx H K) : okv (asl P t x lo hi mx) H K := by
  obtain ⟨h1, h2⟩ := sz?_some hn
  subst h2
  unfold rsl at h
  unfold asl
  rw [hu]
  split at h
  · split at h
    · rename_i l hh hl hhv
      obtain ⟨⟨rfl, rfl⟩, h⟩ := h
      have e1 := bnd_of_rbnd (d := 0) hl (Int.le_refl _)
      have e2 := bnd_of_rbnd (d := 0) hhv (Int.le_refl _)
      simp only [Int.toNat_zero] at e1 e2
      simp only [e1, e2, h1, if_true]
      exact h
    · exact h.elim
  · split at h
    · rename_i l hh m hl hhv hm
      obtain ⟨⟨c1, c2, c3, c4, c5⟩, h⟩ := h
      have e1 := bnd_of_rbnd (d := 0) hl c1
      have e2 := bnd_of_rbnd hhv (by omega)
      have e3 := bnd_of_rbnd hm (by omega)
      simp only [e1, e2, e3]
      rw [if_pos ⟨by omega, by omega, by omega, c5, h1⟩]
      exact h
    · exact h.elim
  · split at h
    · rename_i l hh hl hhv
      obtain ⟨⟨c1, c2, c3⟩, h⟩ := h
      have e1 := bnd_of_rbnd (d := 0) hl c1
      have e2 := bnd_of_rbnd hhv (by omega)
      simp only [e1, e2]
      rw [if_pos ⟨by omega, by omega, h1⟩]
      exact h
    · exact h.elim
  · exact h.elim

theorem rslA_ok {P : Program} {t e : TypeId} {n sz : Nat} {x : Value} {lo hi : Option Value} {H : AH} {K : Value → AH → Prop} (hu : P.underlying t = some (.array n e)) (hn : sz? P e = some sz)
    (h : rslA n sz x lo hi H K) : okv (asl P t x lo hi none) H K := by
  obtain ⟨h1, h2⟩ := sz?_some hn
  subst h2
  unfold rslA at h
  unfold asl
  rw [hu]
  split at h
  · rename_i b o l hh hl hhv
    obtain ⟨⟨c1, c2, c3⟩, h⟩ := h
    have e1 := bnd_of_rbnd (d := 0) hl c1
    have e2 := bnd_of_rbnd hhv (by omega)
    simp only [e1, e2]
    rw [if_pos ⟨by omega, by omega, h1⟩]
    exact h
  · rename_i nm cs c0 l hh hl hhv
    obtain ⟨⟨c1, c2, c3⟩, h⟩ := h
    have e1 := bnd_of_rbnd (d := 0) hl c1
    have e2 := bnd_of_rbnd hhv (by omega)
    simp only [e1, e2]
    rw [if_pos ⟨by omega, by omega, h1⟩]
    exact h
  · exact h.elim

theorem rcopy_ok {P : Program} {ats : Array TypeId} {elem : TypeId} {d x : Value} {H : AH} {K : Value → AH → Prop} (ha : (ats[0]?).bind (elemOf? P) = some elem) (hs : (P.info? elem).isSome = true)
    (h : rcopy (P.cellsOf elem) d x H K) : acopy P ats d x H K := by
  unfold acopy
  unfold rcopy at h
  rw [ha]
  split at h
  · rename_i n hn
    rw [hn]
    refine ⟨hs, ?_⟩
    split at h <;> try dsimp only
    · exact h
    · split at h
      · rename_i h0; rw [if_pos h0]; exact h
      · rename_i h0; rw [if_neg h0]
        split at h
        · rename_i h1 h2; rw [h1, h2]; exact h
        · exact h.elim
    · exact h.elim
  · exact h.elim

theorem rclear_ok {P : Program} {ats : Array TypeId} {elem : TypeId} {x : Value} {H : AH} {K : Value → AH → Prop} {z : List Value} (ha : (ats[0]?).bind (elemOf? P) = some elem) (hz : azero P elem = some z) (hok : z.all okCell = true)
    (h : rclear z x H K) : aclear P ats x H K := by
  unfold aclear
  unfold rclear at h
  rw [ha]
  split at h <;> try dsimp only
  · exact h
  · split at h
    · rename_i h0; rw [if_pos h0]; exact h
    · rename_i h0; rw [if_neg h0, hz]
      split at h
      · rename_i h1; rw [h1]; exact ⟨hok, h⟩
      · exact h.elim
  · exact h.elim

theorem rbit_ok {P : Program} {op : BinOp} {t : TypeId} {x y : Operand} {a b v : Value} (h : rbit op a b = some v) : anilnil P op t x y a b = some v := by
  unfold rbit at h
  split at h
  · cases op <;> simp_all [anilnil, abin]
  · simp at h

theorem rnil0_ok {P : Program} {t e : TypeId} {x y : Operand} {n c : Nat} {a v : Value} (ne : Bool) (hu : P.underlying t = some (.slice e)) (h : rnil 0 ne a = some v) : anilnil P (if ne then .neq else .eql) t x y a (.slice none n c) = some v := by
  unfold rnil at h
  split at h <;> simp_all
  cases ne <;> simp_all [anilnil, abin]

theorem rnil1_ok {P : Program} {t e : TypeId} {x y : Operand} {a v : Value} (ne : Bool) (hu : P.underlying t = some (.pointer e)) (h : rnil 1 ne a = some v) : anilnil P (if ne then .neq else .eql) t x y a (.pointer none) = some v := by
  unfold rnil at h
  split at h <;> simp_all
  cases ne <;> simp_all [anilnil, abin]

theorem rnil2_ok {P : Program} {t : TypeId} {ms : Array (String × TypeId)} {x : Operand} {a v : Value} (ne : Bool) (hu : P.underlying t = some (.interface ms)) (h : rnil 2 ne a = some v) : anilnil P (if ne then .neq else .eql) t x (.const .nilIface) a .nilIface = some v := by
  unfold rnil at h
  split at h <;> simp_all
  all_goals cases ne <;> simp_all [anilnil, abin, isC]

theorem okv_mono {o o' : Option Value} {H : AH} {K : Value → AH → Prop} (h : okv o H K) (hh : ∀ v, o = some v → o' = some v) : okv o' H K := by
  obtain ⟨v, hv, hK⟩ := okv_some h
  rw [hh v hv]; exact hK

theorem rint_ok {P : Program} {op : BinOp} {t : TypeId} {x y : Operand} {a b v : Value} (h : rint op a b = some v) : anilnil P op t x y a b = some v := by
  unfold rint at h
  split at h
  · rename_i k a k' b
    split at h
    · rename_i hk
      simp only [anilnil, abin, if_pos hk]
      cases op <;> simp_all
    · simp at h
  · simp at h

theorem afill_mono {f g : Nat → Option (Nat × Nat)} (h : ∀ i p, f i = some p → g i = some p) : ∀ (parts : List (Nat × Value)) (cells l : List Value), afill f cells parts = some l → afill g cells parts = some l
  | [], cells, l, hl => hl
  | (i, v) :: rest, cells, l, hl => by
    simp only [afill] at hl ⊢
    cases hf : f i with
    | none => rw [hf] at hl; cases hl
    | some p =>
      rw [hf] at hl
      rw [h i p hf]
      dsimp only at hl ⊢
      split at hl
      · rename_i hc; rw [if_pos hc]; exact afill_mono h rest _ _ hl
      · cases hl

theorem rbb_ok {P : Program} {t : TypeId} {x y : Operand} {a b v : Value} (ne : Bool) (hu : P.underlying t = some .bool) (h : rbb ne a b = some v) : anilnil P (if ne then .neq else .eql) t x y a b = some v := by
  unfold rbb at h
  split at h
  · cases ne <;> simp_all [anilnil, abin]
  · cases h

theorem eqA_ok {P : Program} {t : TypeId} {x y : Operand} {a b v : Value} {ks : List LK} (ne : Bool) (hk : eqKinds P t = some ks) (h : reqA ne ks a b = some v) : abinE P (if ne then .neq else .eql) t x y a b = some v := by
  have hn : anilnil P (if ne then .neq else .eql) t x y a b = none := by
    unfold reqA at h
    split at h
    · cases ne <;> rfl
    · cases h
  unfold abinE
  rw [hn]
  cases ne
  · simp only [aeqA, hk, Bool.false_eq_true, if_false]; exact h
  · simp only [aeqA, hk, if_true]; exact h

theorem comp_sound {P : Program} {env : List Value} {o : Op} {H : AH} {K : Value → AH → Prop} (h : rop P env (compOp P o) H K) : aopc P (evalL env) o H K := by
  unfold compOp at h
  split at h
  · simp only [rop, compX_ev] at h; exact h
  · simp only [rop, compX_ev] at h; exact h
  · simp only [rop, compX_ev] at h
    simp only [aopc, aop]
    split at h
    · rename_i t hb
      simp only [hb]
      cases t with
      | false => simpa using h.2 rfl
      | true => simpa using h.1 rfl
    · exact h.elim
  · rename_i t a
    split at h
    · rename_i hag
      simp only [rop, compX_ev] at h
      simp only [aopc, aop]
      split at h
      · rename_i heq
        simp only [heq]
        refine okv_mono h fun v hv => ?_
        simp only [rloadN] at hv
        simp only [aload]
        split at hv <;> simp_all
      · rename_i heq
        simp only [heq]
        refine okv_mono h fun v hv => ?_
        simp only [aloadF, hag]
        exact hv
      · exact h.elim
    · rename_i hag
      simp only [rop, compX_ev] at h
      simp only [aopc, aop]
      split at h
      · rename_i heq
        simp only [heq]
        refine okv_mono h fun v hv => ?_
        simp only [rload1] at hv
        simp only [aload]
        split at hv <;> simp_all
      · rename_i heq
        simp only [heq]
        refine okv_mono h fun v hv => ?_
        simp only [aloadF, hag]
        exact hv
      · exact h.elim
    · exact h
  · rename_i t a x
    split at h
    · rename_i hs
      simp only [rop, compX_ev] at h
      simp only [aopc, aop]
      split at h
      · rename_i heq
        simp only [heq]
        simp only [rstore] at h
        simp only [astore]
        split at h
        · rename_i hb
          simp only [hb]
          obtain ⟨⟨h1, h2, h3⟩, h4⟩ := h
          exact ⟨h1, hs, h2, by omega, h4⟩
        · exact h.elim
      · exact h.elim
    · exact h
  · rename_i t x f
    split at h
    · rename_i fields hu
      split at h
      · rename_i fd hf
        split at h
        · rename_i n hn
          obtain ⟨h1, h2⟩ := sz?_some hn
          simp only [rop, compX_ev] at h
          simp only [aopc, aop]
          refine okv_mono h fun v hv => ?_
          unfold raddr at hv
          split at hv
          · simp only [Option.some.injEq] at hv; subst hv
            simp_all [afieldAddr]
          · simp only [Option.some.injEq] at hv; subst hv
            simp_all [afieldAddr]
          · simp at hv
        · exact h
      · exact h
    · exact h
  · rename_i t x i
    split at h
    · rename_i e hu
      split at h
      · rename_i n hn
        obtain ⟨h1, h2⟩ := sz?_some hn
        simp only [rop, compX_ev] at h
        simp only [aopc, aop]
        unfold relem at h
        split at h
        · rename_i b o sp k z hx hi
          obtain ⟨h3, h4⟩ := h
          unfold base at hx
          split at hx
          · rename_i a len cap hxx
            cases hx
            rw [hxx] at h3
            have h3' : 0 ≤ z ∧ z < (len : Int) := h3
            rw [hxx, hi]
            have : aindexAddr P t (.slice (some ⟨b, o, sp⟩) len cap) (.int k z) = some (.pointer (some ⟨b, o + z.toNat * n, none⟩)) := by
              simp only [aindexAddr, hu, aidx, if_pos h3', h1, if_true, h2]
            rw [this]; exact h4
          · cases hx
          · cases hx
        · rename_i nm cs c0 k z hx hi
          obtain ⟨h3, h4⟩ := h
          unfold base at hx
          split at hx
          · cases hx
          · rename_i m nm' cs' c1 hxx
            cases hx
            rw [hxx] at h3
            have h3' : 0 ≤ z ∧ z < (m : Int) := h3
            rw [hxx, hi]
            have : aindexAddr P t (.func (.methodOf m nm') cs' c1) (.int k z) = some (FP (cs'.toList.drop (z.toNat * n))) := by
              simp only [aindexAddr, hu, aidx, if_pos h3', h1, if_true, h2]
            rw [this]; exact h4
          · cases hx
        · exact h.elim
      · exact h
    · rename_i len e hu
      split at h
      · rename_i n hn
        obtain ⟨h1, h2⟩ := sz?_some hn
        simp only [rop, compX_ev] at h
        simp only [aopc, aop]
        unfold relem at h
        split at h
        · rename_i b o sp k z hx hi
          obtain ⟨h3, h4⟩ := h
          unfold baseA at hx
          split at hx
          · rename_i b' o' hxx
            cases hx
            rw [hxx, hi]
            have : aindexAddr P t (.pointer (some ⟨b, o, none⟩)) (.int k z) = some (.pointer (some ⟨b, o + z.toNat * n, none⟩)) := by
              simp only [aindexAddr, hu, aidx, if_pos h3, h1, if_true, h2]
            rw [this]; exact h4
          · cases hx
          · cases hx
        · rename_i nm cs c0 k z hx hi
          obtain ⟨h3, h4⟩ := h
          unfold baseA at hx
          split at hx
          · cases hx
          · rename_i nm' cs' c1 hxx
            cases hx
            rw [hxx, hi]
            have : aindexAddr P t (.func (.method nm') cs' c1) (.int k z) = some (FP (cs'.toList.drop (z.toNat * n))) := by
              simp only [aindexAddr, hu, aidx, if_pos h3, h1, if_true, h2]
            rw [this]; exact h4
          · cases hx
        · exact h.elim
      · exact h
    · exact h
  · rename_i t x f
    split at h
    · rename_i fields hu
      split at h
      · rename_i fd hf
        split at h
        · rename_i hag
          simp only [rop, compX_ev] at h
          simp only [aopc, aop]
          refine okv_mono h fun v hv => ?_
          unfold rfldN at hv
          split at hv
          · simp_all [afield, apart]
          · simp at hv
        · rename_i hag
          simp only [rop, compX_ev] at h
          simp only [aopc, aop]
          refine okv_mono h fun v hv => ?_
          unfold rfld1 at hv
          split at hv
          · simp_all [afield, apart]
          · simp at hv
        · exact h
      · exact h
    · exact h
  · simp only [rop, compX_ev] at h; exact h
  · rename_i op t x y yt
    split at h
    all_goals first
      | (simp only [rop, compX_ev] at h
         simp only [aopc, aop]
         exact okv_mono h fun v hv => abinE_of (rint_ok hv))
      | (simp only [rop, compX_ev] at h
         simp only [aopc, aop]
         exact okv_mono h fun v hv => abinE_of (rbit_ok hv))
      | (rename_i hu
         split at h
         · simp only [rop, compX_ev] at h
           simp only [aopc, aop]
           refine okv_mono h fun v hv => ?_
           first
             | exact abinE_of (rnil0_ok false hu hv)
             | exact abinE_of (rnil0_ok true hu hv)
             | exact abinE_of (rnil1_ok false hu hv)
             | exact abinE_of (rnil1_ok true hu hv)
             | exact abinE_of (rnil2_ok false hu hv)
             | exact abinE_of (rnil2_ok true hu hv)
         · exact h)
      | (rename_i hu
         split at h
         · rename_i ks hk
           simp only [rop, compX_ev] at h
           simp only [aopc, aop]
           refine okv_mono h fun v hv => ?_
           first
             | exact eqA_ok false hk hv
             | exact eqA_ok true hk hv
         · exact h)
      | (rename_i hu
         simp only [rop, compX_ev] at h
         simp only [aopc, aop]
         first
           | exact okv_mono h fun v hv => abinE_of (rbb_ok false hu hv)
           | exact okv_mono h fun v hv => abinE_of (rbb_ok true hu hv))
      | (simp only [rop, compX_ev] at h
         simp only [aopc, aop]
         unfold rquo at h
         split at h
         · rename_i hx hy
           obtain ⟨⟨rfl, hb⟩, h⟩ := h
           rw [abinE_of (v := _) (by simp only [hx, hy, anilnil, abin]; rw [if_pos ⟨trivial, hb⟩])]
           exact h
         · exact h.elim)
      | exact h
  · rename_i s d x
    split at h
    · rename_i hs hd
      simp only [rop, compX_ev] at h
      simp only [aopc, aop]
      refine okv_mono h fun v hv => ?_
      unfold rcvt at hv
      split at hv
      · rename_i hx; simp only [aconv, hs, hd, hx]; exact hv
      · simp at hv
    · rename_i hs hd
      simp only [rop, compX_ev] at h
      simp only [aopc, aop]
      refine okv_mono h fun v hv => ?_
      unfold rcvs at hv
      split at hv
      · rename_i hx; simp only [aconv, hs, hd, hx]; exact hv
      · simp at hv
    · exact h
  · rename_i t x
    simp only [rop, compX_ev] at h
    simp only [aopc, aop]
    split at h
    · rename_i hb
      simp only [hb, aun, okv]; exact h
    · exact h.elim
  · rename_i t x
    simp only [rop, compX_ev] at h
    simp only [aopc, aop]
    refine okv_mono h fun v hv => ?_
    unfold rneg at hv
    split at hv
    · rename_i hx; simp only [hx, aun]; exact hv
    · simp at hv
  · rename_i t
    split at h
    · rename_i z hz
      simp only [aopc, aop, hz]; exact h
    · exact h
  · simp only [rop, compX_ev] at h; exact h
  · rename_i t x
    split at h
    · exact h
    · rename_i d hne hu
      simp only [rop, compX_ev] at h
      simp only [aopc, aop]
      have : aiface P t (evalL env x) = some (.iface t (evalL env x)) := by
        unfold aiface
        cases d <;> first | exact absurd rfl (hne _) | simp [hu]
      rw [this]; exact h
    · exact h
  · simp only [rop, compX_ev] at h; exact h
  · rename_i f args argTypes
    have e : (args.toList.map compX).map (·.ev env) = args.toList.map (evalL env) := by
      rw [List.map_map]; exact List.map_congr_left fun x _ => compX_ev env x
    have hcal : acallee P (evalL env) { callee := .value (.func f), args, argTypes } = some (f, args.toList.map (evalL env)) := by
      simp [acallee, evalL]
    split at h
    · rename_i hc
      simp only [rop, e] at h
      simp only [aopc, hcal, if_pos hc]
      exact h
    · rename_i hc
      simp only [rop, e] at h
      simp only [aopc, hcal, if_neg hc]
      exact h
  · rename_i f args argTypes _
    have e : (args.toList.map compX).map (·.ev env) = args.toList.map (evalL env) := by
      rw [List.map_map]; exact List.map_congr_left fun x _ => compX_ev env x
    simp only [rop, e, compX_ev] at h
    unfold rcallv at h
    split at h
    · rename_i g first captured hf
      have hcal : acallee P (evalL env) { callee := .value f, args, argTypes } = some (g, first.toList ++ args.toList.map (evalL env) ++ captured.toList) := by
        simp [acallee, hf]
      simp only [aopc, hcal, if_pos h.1]
      exact h.2
    · exact h.elim
  · rename_i r name args argTypes
    have e : (args.toList.map compX).map (·.ev env) = args.toList.map (evalL env) := by
      rw [List.map_map]; exact List.map_congr_left fun x _ => compX_ev env x
    simp only [rop, e, compX_ev] at h
    unfold rinv at h
    split at h
    · rename_i t v hf
      obtain ⟨g, hg, hc, h⟩ := h
      have hcal : acallee P (evalL env) { callee := .invoke r name, args, argTypes } = some (g, v :: args.toList.map (evalL env)) := by
        simp [acallee, hf, hg]
      simp only [aopc, hcal]
      exact ⟨hc, h⟩
    · exact h.elim
  · simp only [rop, compX_ev] at h; exact h
  · rename_i fn first captured
    have e : ∀ l : Array Operand, (l.toList.map compX).map (·.ev env) = l.toList.map (evalL env) := fun l => by
      rw [List.map_map]; exact List.map_congr_left fun x _ => compX_ev env x
    simp only [rop, e] at h
    exact h
  · rename_i args argTypes
    split at h
    · rename_i x e hx hu
      simp only [rop, compX_ev] at h
      show abuiltin P .len argTypes (args.toList.map (evalL env)) H K
      rw [hx]
      refine okv_mono h fun v hv => ?_
      unfold alenB
      rw [hu]
      unfold rlenSl at hv
      split at hv <;> simp_all
    · rename_i x hx hu
      simp only [rop, compX_ev] at h
      show abuiltin P .len argTypes (args.toList.map (evalL env)) H K
      rw [hx]
      refine okv_mono h fun v hv => ?_
      unfold alenB
      rw [hu]
      unfold rlenS at hv
      split at hv <;> simp_all
    · exact h
  · rename_i args argTypes
    split at h
    · rename_i x y hx
      simp only [rop, compX_ev] at h
      show abuiltin P .min argTypes (args.toList.map (evalL env)) H K
      rw [hx]
      exact h
    · exact h
  · rename_i args argTypes
    split at h
    · rename_i x y hx
      simp only [rop, compX_ev] at h
      show abuiltin P .max argTypes (args.toList.map (evalL env)) H K
      rw [hx]
      exact h
    · exact h
  · rename_i args argTypes
    split at h
    · rename_i x e hx hu
      simp only [rop, compX_ev] at h
      show abuiltin P .cap argTypes (args.toList.map (evalL env)) H K
      rw [hx]
      refine okv_mono h fun v hv => ?_
      unfold acapB
      rw [hu]
      unfold rcap at hv
      split at hv <;> simp_all
    · exact h
  · rename_i args argTypes
    split at h
    · rename_i d x elem hargs ha
      split at h
      · rename_i hs
        simp only [rop, compX_ev] at h
        show abuiltin P .copy argTypes (args.toList.map (evalL env)) H K
        rw [hargs]
        exact rcopy_ok ha hs h
      · exact h
    · exact h
  · rename_i args argTypes
    split at h
    · rename_i x elem hargs ha
      split at h
      · rename_i z hz
        split at h
        · rename_i hok
          simp only [rop, compX_ev] at h
          show abuiltin P .clear argTypes (args.toList.map (evalL env)) H K
          rw [hargs]
          exact rclear_ok ha hz hok h
        · exact h
      · exact h
    · exact h
  · rename_i args argTypes
    split at h
    · rename_i s x elem d hargs ha hd
      split at h
      · rename_i z hz
        split at h
        · split at h
          · rename_i hc
            simp only [rop, compX_ev] at h
            show abuiltin P .append argTypes (args.toList.map (evalL env)) H K
            rw [hargs]
            exact rappz_ok ha hd hz hc.1 hc.2.1 hc.2.2.1 hc.2.2.2 h
          · exact h
        · rename_i hni
          split at h
          · rename_i hc
            simp only [rop, compX_ev] at h
            show abuiltin P .append argTypes (args.toList.map (evalL env)) H K
            rw [hargs]
            exact rapp_ok ha hd (fun k e => hni k e) hz hc.1 hc.2.1 hc.2.2.1 hc.2.2.2 h
          · exact h
      · exact h
    · exact h
  · rename_i t len parts
    split at h
    · rename_i elem he
      split at h
      · rename_i z hz
        split at h
        · rename_i hc
          have e : (parts.toList.map fun p => (p.1, compX p.2)).map (fun p => (p.1, p.2.ev env)) = parts.toList.map fun p => (p.1, evalL env p.2) := by
            rw [List.map_map]; exact List.map_congr_left fun x _ => by simp [compX_ev]
          simp only [rop, e] at h
          simp only [aopc, aop, abuildSlice, he, hz]
          refine ⟨hc.1, hc.2, ?_⟩
          unfold rbsl at h
          split at h
          · rename_i hf; rw [hf]; exact ⟨h.1, h.2⟩
          · exact h.elim
        · exact h
      · exact h
    · exact h
  · rename_i t parts
    split at h
    · rename_i z pl hz hpl
      have e : (parts.toList.map fun p => (p.1, compX p.2)).map (fun p => (p.1, p.2.ev env)) = parts.toList.map fun p => (p.1, evalL env p.2) := by
        rw [List.map_map]; exact List.map_congr_left fun x _ => by simp [compX_ev]
      simp only [rop, e] at h
      simp only [aopc, aop]
      refine okv_mono h fun v hv => ?_
      unfold rbuild at hv
      unfold abuild
      unfold bplaces at hpl
      split at hpl
      · rename_i n e hu
        obtain ⟨sz, hs, rfl⟩ := Option.map_eq_some_iff.1 hpl
        obtain ⟨g1, g2⟩ := sz?_some hs
        subst g2
        simp only [hz, hu, if_pos g1]
        obtain ⟨l, hl, rfl⟩ := Option.map_eq_some_iff.1 hv
        rw [afill_mono (fun i p hp => ?_) _ _ _ hl]
        · rfl
        · rw [List.getElem?_map] at hp
          obtain ⟨k, hk, rfl⟩ := Option.map_eq_some_iff.1 hp
          rw [List.getElem?_range (by have := (List.getElem?_eq_some_iff.1 hk).1; simpa using this)] at hk
          cases hk; rfl
      · unfold aplaces at hpl
        split at hpl
        · rename_i fields hu
          split at hpl
          · rename_i hall
            simp only [Option.some.injEq] at hpl; subst hpl
            simp only [hz, hu, aplaces, if_pos hall]
            exact hv
          · simp at hpl
        · simp at hpl
    · exact h
  · rename_i t x lo hi mx
    split at h
    · rename_i e hu
      split at h
      · rename_i n hn
        have e : ∀ y : Option Operand, (y.map compX).map (·.ev env) = y.map (evalL env) := by
          intro y; cases y <;> simp [compX_ev]
        simp only [rop, compX_ev, e] at h
        simp only [aopc, aop]
        exact rsl_ok hu hn h
      · exact h
    · rename_i n0 e hu
      split at h
      · rename_i sz hn
        have e : ∀ y : Option Operand, (y.map compX).map (·.ev env) = y.map (evalL env) := by
          intro y; cases y <;> simp [compX_ev]
        simp only [rop, compX_ev, e] at h
        simp only [aopc, aop]
        exact rslA_ok hu hn h
      · exact h
    · exact h
  · rename_i t l c
    split at h
    · rename_i elem he
      split at h
      · rename_i z hz
        split at h
        · rename_i hc
          simp only [rop, compX_ev] at h
          simp only [aopc, aop]
          unfold rmks at h
          unfold amakeSlice
          split at h
          · rename_i hl hcc
            obtain ⟨⟨h1, h2, h3, h4⟩, h5⟩ := h
            simp only [he, hl, hcc, hz]
            exact ⟨hc.1, hc.2, h1, h2, h3, h4, h5⟩
          · exact h.elim
        · exact h
      · exact h
    · exact h
  · exact h

end Go.Proofs.YtmknkpcdfkpobaaA
