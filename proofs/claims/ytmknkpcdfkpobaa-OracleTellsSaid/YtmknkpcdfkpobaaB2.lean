/- Regions that draw their order: one order is walked; what is read must stand while it may yet be read. -/
import Derived.Test.YtmknkpcdfkpobaaB1
set_option linter.unusedVariables false
set_option linter.unusedSimpArgs false
namespace Go.Proofs.YtmknkpcdfkpobaaA
open Go.RowKit

/-! ### Which slots an operation looks at -/

def RX.slots : RX → List Nat
  | .t n => [n]
  | .c _ => []

def opndSlots (x : Operand) : List Nat :=
  match x with
  | .tmp t => [t]
  | _ => []

def ROp.slots : ROp → List Nat
  | .raw o => o.operands.toList.flatMap opndSlots
  | .move x | .load1 x | .loadN _ x | .addr x _ | .fld1 x _ | .fldN x _ _ | .lenS x | .lenSl x | .extract x _ | .not x | .box x | .iface _ x | .nilCheck x | .neg x => x.slots
  | .pick c a b => c.slots ++ a.slots ++ b.slots
  | .store _ a x | .elemS _ a x | .elemA _ _ a x | .int _ a x | .quo _ a x | .app _ _ a x | .appz _ _ a x | .mks _ _ a x => a.slots ++ x.slots
  | .alloc _ => []
  | .call _ args => args.flatMap RX.slots
  | .ext _ args => args.flatMap RX.slots
  | .cap x | .nilv _ _ x | .cvt _ x | .cvs x | .clear _ x => x.slots
  | .bit _ a x | .copy _ a x | .bb _ a x | .eqA _ _ a x | .mm _ a x => a.slots ++ x.slots
  | .bsl _ _ _ parts => parts.flatMap fun p => p.2.slots
  | .build _ _ parts => parts.flatMap fun p => p.2.slots
  | .slA _ _ x lo hi => x.slots ++ (lo.map RX.slots).getD [] ++ (hi.map RX.slots).getD []
  | .callv f args => f.slots ++ args.flatMap RX.slots
  | .inv f _ args => f.slots ++ args.flatMap RX.slots
  | .tass x _ _ _ => x.slots
  | .mkf _ a b => a.flatMap RX.slots ++ b.flatMap RX.slots
  | .sl _ x lo hi mx => x.slots ++ (lo.map RX.slots).getD [] ++ (hi.map RX.slots).getD [] ++ (mx.map RX.slots).getD []

def AOp.slots (a : AOp) : List Nat := a.op.slots ++ (match a.g with | some (some n, _) => [n] | _ => [])

/-- Two operations that touch no slot of one another's. -/
def apartA (x y : AOp) : Bool :=
  (match x.dst with
   | some d => !y.slots.contains d && y.dst != some d
   | none => true) &&
  (match y.dst with
   | some d => !x.slots.contains d
   | none => true)

section
variable {P : Program}

theorem getD_set_ne' (env : List Value) {d n : Nat} (v : Value) (h : d ≠ n) : (env.set d v).getD n undef = env.getD n undef := by
  simp only [List.getD]
  rw [List.getElem?_set_ne h]

theorem RX.ev_put {env : List Value} {d : Option Nat} {v : Value} {x : RX} (h : ∀ n, d = some n → n ∉ x.slots) : x.ev (putL env d v) = x.ev env := by
  cases d with
  | none => rfl
  | some n =>
    cases x with
    | c u => rfl
    | t k => exact getD_set_ne' env v (fun e => h n rfl (by simp [RX.slots, e]))

theorem evalL_put {env : List Value} {d : Option Nat} {v : Value} {x : Operand} (h : ∀ n, d = some n → n ∉ opndSlots x) : evalL (putL env d v) x = evalL env x := by
  cases d with
  | none => rfl
  | some n =>
    cases x with
    | tmp k => exact getD_set_ne' env v (fun e => h n rfl (by simp [opndSlots, e]))
    | _ => rfl

theorem aop_congr {ev ev' : Operand → Value} {o : Op} {H : AH} {K : Value → AH → Prop} (h : ∀ x ∈ o.operands.toList, ev x = ev' x) : aop P ev o H K = aop P ev' o H K := by
  have hm : ∀ (l : Array Operand), (∀ x ∈ l.toList, ev x = ev' x) → l.toList.map ev = l.toList.map ev' := fun l hl => List.map_congr_left hl
  have hp : ∀ (l : Array (Nat × Operand)), (∀ x ∈ l.toList, ev x.2 = ev' x.2) → (l.toList.map fun p => (p.1, ev p.2)) = l.toList.map fun p => (p.1, ev' p.2) := fun l hl => List.map_congr_left fun x hx => by rw [hl x hx]
  cases o
  case call c =>
    obtain ⟨callee, args, ats⟩ := c
    cases callee with
    | builtin b =>
      simp only [aop]
      rw [hm args (fun x hx => h x (by simp [Op.operands, Call.operands]; simpa using hx))]
    | _ => rfl
  case build t parts =>
    simp only [aop]
    rw [hp parts (fun x hx => h x.2 (by simp [Op.operands]; exact ⟨x.1, by simpa using hx⟩))]
  case buildSlice t len parts =>
    simp only [aop]
    rw [hp parts (fun x hx => h x.2 (by simp [Op.operands]; exact ⟨x.1, by simpa using hx⟩))]
  case makeFunc fn first captured =>
    simp only [aop]
    rw [hm first (fun x hx => h x (by simp [Op.operands]; exact .inl (by simpa using hx))), hm captured (fun x hx => h x (by simp [Op.operands]; exact .inr (by simpa using hx)))]
  case slice t x lo hi mx =>
    simp only [aop]
    have h1 := h x (by simp [Op.operands])
    have ho : ∀ y : Option Operand, (∀ z, y = some z → ev z = ev' z) → y.map ev = y.map ev' := by
      intro y hy; cases y with
      | none => rfl
      | some z => simp [hy z rfl]
    rw [h1, ho lo (fun z hz => h z (by simp [Op.operands, hz])), ho hi (fun z hz => h z (by simp [Op.operands, hz])), ho mx (fun z hz => h z (by simp [Op.operands, hz]))]
  all_goals first
    | rfl
    | (simp only [Op.operands, List.mem_cons, List.not_mem_nil, or_false, forall_eq, forall_eq_or_imp] at h
       simp only [aop, h])
    | (simp [Op.operands] at h
       simp only [aop, h])

theorem aopc_congr {ev ev' : Operand → Value} {o : Op} {H : AH} {K : Value → AH → Prop} (h : ∀ x ∈ o.operands.toList, ev x = ev' x) : aopc P ev o H K = aopc P ev' o H K := by
  unfold aopc
  cases o
  case call c =>
    obtain ⟨callee, args, ats⟩ := c
    have hargs : args.toList.map ev = args.toList.map ev' := List.map_congr_left fun x hx => h x (by simp [Op.operands, Call.operands]; exact .inr (by simpa using hx))
    cases callee with
    | builtin b => exact aop_congr h
    | value f =>
      have hf := h f (by simp [Op.operands, Call.operands])
      simp only [acallee, hf, hargs]
    | invoke r name =>
      have hf := h r (by simp [Op.operands, Call.operands])
      simp only [acallee, hf, hargs]
  all_goals exact aop_congr h

theorem rop_put {env : List Value} {d : Option Nat} {v : Value} {r : ROp} {H : AH} {K : Value → AH → Prop} (h : ∀ n, d = some n → n ∉ r.slots) : rop P (putL env d v) r H K = rop P env r H K := by
  cases r
  case raw o =>
    refine aopc_congr fun x hx => evalL_put fun n hn hm => h n hn ?_
    simp only [ROp.slots, List.mem_flatMap]
    exact ⟨x, hx, hm⟩
  case call f args =>
    simp only [rop]
    congr 1
    refine List.map_congr_left fun x hx => RX.ev_put fun n hn hm => h n hn ?_
    simp only [ROp.slots, List.mem_flatMap]
    exact ⟨x, hx, hm⟩
  case ext f args =>
    simp only [rop]
    congr 1
    refine List.map_congr_left fun x hx => RX.ev_put fun n hn hm => h n hn ?_
    simp only [ROp.slots, List.mem_flatMap]
    exact ⟨x, hx, hm⟩
  case callv f args =>
    have hx : f.ev (putL env d v) = f.ev env := RX.ev_put fun n hn hm => h n hn (by simp [ROp.slots, hm])
    simp only [rop]
    rw [hx]
    congr 1
    refine List.map_congr_left fun x hx => RX.ev_put fun n hn hm => h n hn ?_
    simp only [ROp.slots, List.mem_append, List.mem_flatMap]
    exact .inr ⟨x, hx, hm⟩
  case inv f name args =>
    have hx : f.ev (putL env d v) = f.ev env := RX.ev_put fun n hn hm => h n hn (by simp [ROp.slots, hm])
    simp only [rop]
    rw [hx]
    congr 1
    refine List.map_congr_left fun x hx => RX.ev_put fun n hn hm => h n hn ?_
    simp only [ROp.slots, List.mem_append, List.mem_flatMap]
    exact .inr ⟨x, hx, hm⟩
  case mkf fn a b =>
    have h1 : a.map (·.ev (putL env d v)) = a.map (·.ev env) := List.map_congr_left fun x hx => RX.ev_put fun n hn hm => h n hn (by simp only [ROp.slots, List.mem_append, List.mem_flatMap]; exact .inl ⟨x, hx, hm⟩)
    have h2 : b.map (·.ev (putL env d v)) = b.map (·.ev env) := List.map_congr_left fun x hx => RX.ev_put fun n hn hm => h n hn (by simp only [ROp.slots, List.mem_append, List.mem_flatMap]; exact .inr ⟨x, hx, hm⟩)
    simp only [rop]
    rw [h1, h2]
  case slA n sz x lo hi =>
    have hx : x.ev (putL env d v) = x.ev env := RX.ev_put fun n hn hm => h n hn (by simp [ROp.slots, hm])
    have ho : ∀ y : Option RX, (∀ n, d = some n → n ∉ (y.map RX.slots).getD []) → y.map (·.ev (putL env d v)) = y.map (·.ev env) := by
      intro y hy; cases y with
      | none => rfl
      | some z => simp only [Option.map_some]; rw [RX.ev_put fun n hn hm => hy n hn (by simpa using hm)]
    simp only [rop]
    rw [hx, ho lo fun n hn hm => h n hn (by simp [ROp.slots, hm]), ho hi fun n hn hm => h n hn (by simp [ROp.slots, hm])]
  case bsl z sz len parts =>
    simp only [rop]
    congr 1
    refine List.map_congr_left fun x hx => ?_
    rw [RX.ev_put fun n hn hm => h n hn (by simp only [ROp.slots, List.mem_flatMap]; exact ⟨x, hx, hm⟩)]
  case build z pl parts =>
    simp only [rop]
    congr 2
    refine List.map_congr_left fun x hx => ?_
    rw [RX.ev_put fun n hn hm => h n hn (by simp only [ROp.slots, List.mem_flatMap]; exact ⟨x, hx, hm⟩)]
  case sl sz x lo hi mx =>
    have hx : x.ev (putL env d v) = x.ev env := RX.ev_put fun n hn hm => h n hn (by simp [ROp.slots, hm])
    have ho : ∀ y : Option RX, (∀ n, d = some n → n ∉ (y.map RX.slots).getD []) → y.map (·.ev (putL env d v)) = y.map (·.ev env) := by
      intro y hy; cases y with
      | none => rfl
      | some z => simp only [Option.map_some]; rw [RX.ev_put fun n hn hm => hy n hn (by simpa using hm)]
    simp only [rop]
    rw [hx, ho lo fun n hn hm => h n hn (by simp [ROp.slots, hm]), ho hi fun n hn hm => h n hn (by simp [ROp.slots, hm]), ho mx fun n hn hm => h n hn (by simp [ROp.slots, hm])]
  case pick c a b =>
    have e1 : c.ev (putL env d v) = c.ev env := RX.ev_put fun n hn hm => h n hn (by simp [ROp.slots, hm])
    have e2 : a.ev (putL env d v) = a.ev env := RX.ev_put fun n hn hm => h n hn (by simp [ROp.slots, hm])
    have e3 : b.ev (putL env d v) = b.ev env := RX.ev_put fun n hn hm => h n hn (by simp [ROp.slots, hm])
    simp only [rop, e1, e2, e3]
  case alloc z => rfl
  all_goals
    simp only [rop]
    try simp only [ROp.slots, List.mem_append, not_or] at h
    first
      | rfl
      | rw [RX.ev_put fun n hn => h n hn]
      | rw [RX.ev_put fun n hn => (h n hn).1, RX.ev_put fun n hn => (h n hn).2]

theorem putL_comm (env : List Value) {x y : Option Nat} (v u : Value) (h : ∀ n, x = some n → y ≠ some n) : putL (putL env x v) y u = putL (putL env y u) x v := by
  cases x with
  | none => rfl
  | some n =>
    cases y with
    | none => rfl
    | some m =>
      have hne : n ≠ m := fun e => h n rfl (by rw [e])
      exact List.set_comm _ _ hne

/-- A step, in a frame in which another one's slot is filled already. -/
theorem astep_put {env : List Value} {d : Option Nat} {v : Value} {a : AOp} {H : AH} {K : List Value → AH → Prop} (h1 : ∀ n, d = some n → n ∉ a.slots) (h2 : ∀ n, d = some n → a.dst ≠ some n)
    (h : astep P (putL env d v) H a K) : astep P env H a (fun env' H' => K (putL env' d v) H') := by
  have hop : ∀ n, d = some n → n ∉ a.op.slots := fun n hn hm => h1 n hn (by simp [AOp.slots, hm])
  have hcomm : ∀ u, putL (putL env d v) a.dst u = putL (putL env a.dst u) d v := fun u => putL_comm env v u h2
  unfold astep at *
  cases hg : a.g with
  | none =>
    simp only [hg] at h ⊢
    rw [rop_put hop] at h
    simpa only [hcomm] using h
  | some gw =>
    obtain ⟨gt, want⟩ := gw
    simp only [hg] at h ⊢
    have hgt : (gt.bind fun x => (putL env d v)[x]?) = (gt.bind fun x => env[x]?) := by
      cases gt with
      | none => rfl
      | some n =>
        cases d with
        | none => rfl
        | some m =>
          have hne : m ≠ n := fun e => h1 m rfl (by simp [AOp.slots, hg, e])
          simp only [Option.bind_some, putL]
          exact List.getElem?_set_ne hne
    rw [hgt] at h
    cases hb : (gt.bind fun x => env[x]?) with
    | none => simp only [hb, hcomm] at h ⊢; exact h
    | some u =>
      simp only [hb] at h ⊢
      cases u with
      | bool b =>
        simp only [rop_put hop, hcomm] at h ⊢
        exact h
      | chan r => exact h
      | _ => simp only [hcomm] at h ⊢; exact h

/-- The other way. -/
theorem astep_put' {env : List Value} {d : Option Nat} {v : Value} {a : AOp} {H : AH} {K : List Value → AH → Prop} (h1 : ∀ n, d = some n → n ∉ a.slots) (h2 : ∀ n, d = some n → a.dst ≠ some n)
    (h : astep P env H a (fun env' H' => K (putL env' d v) H')) : astep P (putL env d v) H a K := by
  have hop : ∀ n, d = some n → n ∉ a.op.slots := fun n hn hm => h1 n hn (by simp [AOp.slots, hm])
  have hcomm : ∀ u, putL (putL env d v) a.dst u = putL (putL env a.dst u) d v := fun u => putL_comm env v u h2
  unfold astep at *
  cases hg : a.g with
  | none =>
    simp only [hg] at h ⊢
    rw [rop_put hop]
    simpa only [hcomm] using h
  | some gw =>
    obtain ⟨gt, want⟩ := gw
    simp only [hg] at h ⊢
    have hgt : (gt.bind fun x => (putL env d v)[x]?) = (gt.bind fun x => env[x]?) := by
      cases gt with
      | none => rfl
      | some n =>
        cases d with
        | none => rfl
        | some m =>
          have hne : m ≠ n := fun e => h1 m rfl (by simp [AOp.slots, hg, e])
          simp only [Option.bind_some, putL]
          exact List.getElem?_set_ne hne
    rw [hgt]
    cases hb : (gt.bind fun x => env[x]?) with
    | none => simp only [hb, hcomm] at h ⊢; exact h
    | some u =>
      simp only [hb] at h ⊢
      cases u with
      | bool b =>
        simp only [rop_put hop, hcomm] at h ⊢
        exact h
      | chan r => exact h
      | _ => simp only [hcomm] at h ⊢; exact h

/-! ### Operations that only look -/

/-- some false: it doesn't look at the heap; some true: it does. -/
def pureK : ROp → Option Bool
  | .move _ | .pick .. | .addr .. | .elemS .. | .elemA .. | .fld1 .. | .fldN .. | .lenS _ | .lenSl _ | .extract .. | .int .. | .not _ | .iface .. | .nilCheck _ | .neg _ | .quo .. | .build .. | .sl .. | .cap _ | .nilv .. | .cvt .. | .cvs _ | .bit .. | .bb .. | .eqA .. | .mm .. | .slA .. | .tass .. | .mkf .. => some false
  | .load1 _ | .loadN .. => some true
  | _ => none

/-- In this heap the step leaves this value, and nothing else. -/
def Yld (P : Program) (a : AOp) (env : List Value) (v : Value) (H : AH) : Prop := ∀ K : List Value → AH → Prop, K (putL env a.dst v) H → astep P env H a K

theorem okv_yld {o : Option Value} {H : AH} {K : Value → AH → Prop} (h : okv o H K) : ∃ v, K v H ∧ o = some v := by
  obtain ⟨v, hv, hK⟩ := okv_some h; exact ⟨v, hK, hv⟩

theorem rop_pure0 {env : List Value} {r : ROp} {H : AH} {K : Value → AH → Prop} (hp : pureK r = some false) (h : rop P env r H K) : ∃ v, K v H ∧ ∀ H2 (K2 : Value → AH → Prop), K2 v H2 → rop P env r H2 K2 := by
  cases r <;> simp only [pureK, reduceCtorEq, Option.some.injEq, Bool.true_eq_false] at hp
  case move x => exact ⟨_, h, fun _ _ h => h⟩
  case iface t x => exact ⟨_, h, fun _ _ h => h⟩
  case nilCheck x => exact ⟨_, h.2, fun _ _ h2 => ⟨h.1, h2⟩⟩
  case pick c a b =>
    simp only [rop] at h ⊢
    split at h
    · rename_i t ht
      cases t with
      | true => exact ⟨_, h.1 rfl, fun _ _ h2 => ⟨fun _ => h2, fun e => by cases e⟩⟩
      | false => exact ⟨_, h.2 rfl, fun _ _ h2 => ⟨fun e => by (cases e), fun _ => h2⟩⟩
    · exact h.elim
  case not x =>
    simp only [rop] at h ⊢
    split at h
    · exact ⟨_, h, fun _ _ h2 => h2⟩
    · exact h.elim
  case elemS sz x i =>
    simp only [rop, relem] at h ⊢
    split at h
    · exact ⟨_, h.2, fun _ _ h2 => ⟨h.1, h2⟩⟩
    · exact ⟨_, h.2, fun _ _ h2 => ⟨h.1, h2⟩⟩
    · exact h.elim
  case elemA len sz x i =>
    simp only [rop, relem] at h ⊢
    split at h
    · exact ⟨_, h.2, fun _ _ h2 => ⟨h.1, h2⟩⟩
    · exact ⟨_, h.2, fun _ _ h2 => ⟨h.1, h2⟩⟩
    · exact h.elim
  case quo rem x y =>
    simp only [rop, rquo] at h ⊢
    split at h
    · exact ⟨_, h.2, fun _ _ h2 => ⟨h.1, h2⟩⟩
    · exact h.elim
  case mkf fn a b => exact ⟨_, h.2, fun _ _ h2 => ⟨h.1, h2⟩⟩
  case slA n sz x lo hi =>
    simp only [rop, rslA] at h ⊢
    split at h
    · exact ⟨_, h.2, fun _ _ h2 => ⟨h.1, h2⟩⟩
    · exact ⟨_, h.2, fun _ _ h2 => ⟨h.1, h2⟩⟩
    · exact h.elim
  case sl sz x lo hi mx =>
    simp only [rop, rsl] at h ⊢
    split at h
    · split at h
      · exact ⟨_, h.2, fun _ _ h2 => ⟨h.1, h2⟩⟩
      · exact h.elim
    · split at h
      · exact ⟨_, h.2, fun _ _ h2 => ⟨h.1, h2⟩⟩
      · exact h.elim
    · split at h
      · exact ⟨_, h.2, fun _ _ h2 => ⟨h.1, h2⟩⟩
      · exact h.elim
    · exact h.elim
  all_goals
    obtain ⟨v, hv, ho⟩ := okv_yld h
    refine ⟨v, hv, fun H2 K2 h2 => ?_⟩
    simp only [rop, ho]
    exact h2

theorem rop_pure1 {env : List Value} {r : ROp} {H : AH} {K : Value → AH → Prop} (hp : pureK r = some true) (h : rop P env r H K) : ∃ v, K v H ∧ ∀ (K2 : Value → AH → Prop), K2 v H → rop P env r H K2 := by
  cases r <;> simp only [pureK, reduceCtorEq, Option.some.injEq, Bool.false_eq_true] at hp
  all_goals
    simp only [rop] at h ⊢
    split at h
    · obtain ⟨v, hv, ho⟩ := okv_yld h
      exact ⟨v, hv, fun K2 h2 => by rw [ho]; exact h2⟩
    · obtain ⟨v, hv, ho⟩ := okv_yld h
      exact ⟨v, hv, fun K2 h2 => by rw [ho]; exact h2⟩
    · exact h.elim

theorem astep_pure {env : List Value} {a : AOp} {H : AH} {K : List Value → AH → Prop} {b : Bool} (hp : pureK a.op = some b) (h : astep P env H a K) :
    ∃ v, K (putL env a.dst v) H ∧ Yld P a env v H ∧ (b = false → ∀ H2, Yld P a env v H2) := by
  have key : ∀ {K : Value → AH → Prop}, rop P env a.op H K → ∃ v, K v H ∧ (∀ (K2 : Value → AH → Prop), K2 v H → rop P env a.op H K2) ∧ (b = false → ∀ H2 (K2 : Value → AH → Prop), K2 v H2 → rop P env a.op H2 K2) := by
    intro K hr
    cases b with
    | false => obtain ⟨v, h1, h2⟩ := rop_pure0 hp hr; exact ⟨v, h1, h2 H, fun _ => h2⟩
    | true => obtain ⟨v, h1, h2⟩ := rop_pure1 hp hr; exact ⟨v, h1, h2, fun e => by cases e⟩
  unfold Yld astep
  unfold astep at h
  cases hg : a.g with
  | none =>
    simp only [hg] at h
    obtain ⟨v, h1, h2, h3⟩ := key h
    exact ⟨v, h1, fun K hK => h2 _ hK, fun e H2 K hK => h3 e H2 _ hK⟩
  | some gw =>
    obtain ⟨gt, want⟩ := gw
    simp only [hg] at h ⊢
    cases hb : (gt.bind fun x => env[x]?) with
    | none => simp only [hb] at h ⊢; exact ⟨undef, h, fun K hK => hK, fun _ H2 K hK => hK⟩
    | some u =>
      simp only [hb] at h ⊢
      cases u with
      | bool c =>
        cases hcw : (c == want) with
        | true =>
          obtain ⟨v, h1, h2, h3⟩ := key (h.1 hcw)
          refine ⟨v, h1, fun K hK => ⟨fun _ => h2 _ hK, fun e => (by first | (rw [hcw] at e; cases e) | cases e)⟩, fun e H2 K hK => ⟨fun _ => h3 e H2 _ hK, fun e => (by first | (rw [hcw] at e; cases e) | cases e)⟩⟩
        | false =>
          refine ⟨undef, h.2 hcw, fun K hK => ⟨fun e => (by first | (rw [hcw] at e; cases e) | cases e), fun _ => hK⟩, fun _ H2 K hK => ⟨fun e => (by first | (rw [hcw] at e; cases e) | cases e), fun _ => hK⟩⟩
      | chan r => exact h.elim
      | _ => exact ⟨undef, h, fun K hK => hK, fun _ H2 K hK => hK⟩

theorem astep_strong {env : List Value} {a : AOp} {H : AH} {K : List Value → AH → Prop} (h : astep P env H a K) : astep P env H a (fun env' H' => (∃ u, env' = putL env a.dst u) ∧ K env' H') := by
  unfold astep at *
  cases hg : a.g with
  | none => simp only [hg] at h ⊢; exact rop_mono (fun v H' hh => ⟨⟨v, rfl⟩, hh⟩) h
  | some gw =>
    obtain ⟨gt, want⟩ := gw
    simp only [hg] at h ⊢
    cases hb : (gt.bind fun x => env[x]?) with
    | none => simp only [hb] at h ⊢; exact ⟨⟨_, rfl⟩, h⟩
    | some u =>
      simp only [hb] at h ⊢
      cases u with
      | bool c => exact Branch.mono h (rop_mono (fun v H' hh => ⟨⟨v, rfl⟩, hh⟩)) (fun hh => ⟨⟨_, rfl⟩, hh⟩)
      | chan r => exact h
      | _ => exact ⟨⟨_, rfl⟩, h⟩

/-! ### Any order -/

def astepI (P : Program) (ops : Array Oper) (i : Nat) (env : List Value) (H : AH) (K : List Value → AH → Prop) : Prop :=
  match ops[i]? with
  | none => K env H
  | some o => astep P env H (compOper P ops o) K

abbrev rdy (ops : Array Oper) (listed : Array Bool) : List Nat := Region.ready .any ops listed

/-- Whatever order is picked; behind each step what was read, and may yet be read, stands as it did (pend; anc tells whom a step waits for). -/
def aAnyP (P : Program) (ops : Array Oper) (anc : Nat → Nat → Bool) : Nat → Array Bool → List (Nat × (AH → Prop)) → List Value → AH → (List Value → AH → Prop) → Prop
  | 0, listed, _, env, H, K => rdy ops listed = [] ∧ K env H
  | fuel + 1, listed, pend, env, H, K => (rdy ops listed = [] → K env H) ∧ ∀ i ∈ rdy ops listed,
      astepI P ops i env H (fun env' H' => (∀ p ∈ pend, anc p.1 i = false → p.2 H') ∧ aAnyP P ops anc fuel (listed.setIfInBounds i true) (pend.filter fun p => !anc p.1 i) env' H' K)

theorem aAnyP_wp {ops : Array Oper} {anc : Nat → Nat → Bool} {B : Nat} {Q : Exit → Act → World → Prop} : ∀ (fuel : Nat) {listed : Array Bool} {pend : List (Nat × (AH → Prop))} {env : List Value} {H : AH} {ρ : Ren} {a : Act} {w : World} {K : List Value → AH → Prop},
    St B ρ env H a w → aAnyP P ops anc fuel listed pend env H K → (∀ a' w', Reach B ρ w K a' w' → Q .normal a' w') → wpAny P .any ops Q fuel listed a w
  | 0, listed, pend, env, H, ρ, a, w, K, hSt, h, hQ => ⟨h.1, hQ _ _ ⟨env, H, ρ, h.2, hSt, RenLe.refl ρ, Below.refl B w⟩⟩
  | fuel + 1, listed, pend, env, H, ρ, a, w, K, hSt, h, hQ => by
    refine ⟨fun hr => hQ _ _ ⟨env, H, ρ, h.1 hr, hSt, RenLe.refl ρ, Below.refl B w⟩, fun i hi => ?_⟩
    have hs := h.2 i hi
    obtain ⟨_, oi, hoi, _⟩ := mem_ready.1 hi
    simp only [astepI, hoi] at hs
    refine wpOp_mono ?_ (astep_wp hoi hSt hs)
    rintro a' w' ⟨env', H', ρ', ⟨_, hK⟩, hSt', hρ, hB⟩
    exact aAnyP_wp fuel hSt' hK fun a'' w'' hr => hQ _ _ (hr.trans hρ hB)

theorem aAnyP_pend {ops : Array Oper} {anc : Nat → Nat → Bool} : ∀ (fuel : Nat) {listed : Array Bool} {pend pend' : List (Nat × (AH → Prop))} {env : List Value} {H : AH} {K : List Value → AH → Prop},
    (∀ p ∈ pend', p ∈ pend) → aAnyP P ops anc fuel listed pend env H K → aAnyP P ops anc fuel listed pend' env H K
  | 0, _, _, _, _, _, _, _, h => h
  | fuel + 1, listed, pend, pend', env, H, K, hp, h => by
    refine ⟨h.1, fun i hi => ?_⟩
    have hs := h.2 i hi
    unfold astepI at *
    split
    · rename_i ho
      simp only [ho] at hs
      exact ⟨fun p hp' => hs.1 p (hp p hp'), aAnyP_pend fuel (fun p hp' => by rw [List.mem_filter] at *; exact ⟨hp p hp'.1, hp'.2⟩) hs.2⟩
    · rename_i o ho
      simp only [ho] at hs
      exact astep_mono (fun e H' hh => ⟨fun p hp' => hh.1 p (hp p hp'), aAnyP_pend fuel (fun p hp' => by rw [List.mem_filter] at *; exact ⟨hp p hp'.1, hp'.2⟩) hh.2⟩) hs

theorem apartA_spec {x y : AOp} (h : apartA x y = true) : (∀ d, x.dst = some d → d ∉ y.slots) ∧ (∀ d, x.dst = some d → y.dst ≠ some d) ∧ (∀ d, y.dst = some d → d ∉ x.slots) := by
  refine ⟨fun d hd => ?_, fun d hd => ?_, fun d hd => ?_⟩ <;> simp [apartA, hd] at h
  · exact h.1.1
  · exact h.1.2
  · exact h.2

/-- All that a listed operation waits for is listed. -/
def Closed (ops : Array Oper) (listed : Array Bool) : Prop := ∀ k o, ops[k]? = some o → listed.getD k false = true → ∀ e ∈ o.after, Region.binds .any e = true → listed.getD e.on false = true

theorem Closed.set {ops : Array Oper} {listed : Array Bool} {i : Nat} (h : Closed ops listed) (hi : i ∈ rdy ops listed) : Closed ops (listed.setIfInBounds i true) := by
  obtain ⟨_, oi, hoi, hall⟩ := mem_ready.1 hi
  intro k o hk hl e he hb
  by_cases hki : k = i
  · subst hki
    rw [hoi] at hk; cases hk
    exact getD_set_true (hall e he hb)
  · rw [getD_set_ne false (Ne.symm hki)] at hl
    exact getD_set_true (h k o hk hl e he hb)

theorem take_first {ops : Array Oper} {anc : Nat → Nat → Bool} {i : Nat} {oi : Oper} (hi : ops[i]? = some oi)
    (hanc : ∀ listed j, Closed ops listed → j ∈ rdy ops listed → listed.getD i true = false → anc i j = false)
    {S : AH → Prop} {ext : List (Nat × (AH → Prop))} (hext : ext = [] ∧ (∀ H, S H) ∨ ext = [(i, S)]) {K : List Value → AH → Prop} :
    ∀ (fuel : Nat) (listed : Array Bool) (pend : List (Nat × (AH → Prop))) (env : List Value) (H : AH) (v : Value), Closed ops listed → i ∈ rdy ops listed →
      (∀ j oj, ops[j]? = some oj → j ≠ i → listed.getD j true = false → (∀ e ∈ oj.after, Region.binds .any e = true → e.on ≠ i) → apartA (compOper P ops oi) (compOper P ops oj) = true) →
      (∀ H2, S H2 → Yld P (compOper P ops oi) env v H2) → S H → (∀ p ∈ pend, p.2 H) →
      aAnyP P ops anc fuel (listed.setIfInBounds i true) (pend ++ ext) (putL env oi.dst v) H K → aAnyP P ops anc (fuel + 1) listed pend env H K := by
  intro fuel
  induction fuel with
  | zero =>
    intro listed pend env H v hcl hr hfree hy hS hpend G
    refine ⟨fun h => (by rw [h] at hr; cases hr), fun j hj => ?_⟩
    by_cases hji : j = i
    · subst hji
      simp only [astepI, hi]
      exact hy H hS _ ⟨fun p hp _ => hpend p hp, G⟩
    · have : j ∈ rdy ops (listed.setIfInBounds i true) := ready_mono hj hji
      rw [G.1] at this
      cases this
  | succ fuel ih =>
    intro listed pend env H v hcl hr hfree hy hS hpend G
    refine ⟨fun h => (by rw [h] at hr; cases hr), fun j hj => ?_⟩
    by_cases hji : j = i
    · subst hji
      simp only [astepI, hi]
      refine hy H hS _ ⟨fun p hp _ => hpend p hp, aAnyP_pend (fuel + 1) (fun p hp => ?_) G⟩
      exact List.mem_append_left _ (List.mem_filter.1 hp).1
    · have h1 := G.2 j (ready_mono hj hji)
      obtain ⟨hjun, oj, hoj, hall⟩ := mem_ready.1 hj
      have hiun := (mem_ready.1 hr).1
      have hnot : ∀ e ∈ oj.after, Region.binds .any e = true → e.on ≠ i := fun e he hb heq => by
        have h1 := hall e he hb
        rw [heq] at h1
        rcases Nat.lt_or_ge i listed.size with h' | h'
        · simp [h'] at hiun h1; rw [hiun] at h1; cases h1
        · simp [Array.getElem?_eq_none h'] at h1
      have hap := apartA_spec (hfree j oj hoj hji hjun hnot)
      have hij : anc i j = false := hanc listed j hcl hj hiun
      simp only [astepI, hoj] at h1 ⊢
      have h2 := astep_put (a := compOper P ops oj) (d := oi.dst) hap.1 hap.2.1 h1
      refine astep_mono ?_ (astep_strong h2)
      rintro env' H' ⟨⟨u, rfl⟩, hp1, hG'⟩
      have hfree' : ∀ k ok, ops[k]? = some ok → k ≠ i → (listed.setIfInBounds j true).getD k true = false → (∀ e ∈ ok.after, Region.binds .any e = true → e.on ≠ i) → apartA (compOper P ops oi) (compOper P ops ok) = true := fun k ok hk hki hun hno => by
        refine hfree k ok hk hki ?_ hno
        by_cases hjk : j = k
        · subst hjk; exact hjun
        · rw [getD_set_ne true hjk] at hun; exact hun
      have hS' : S H' := by
        rcases hext with ⟨_, hall⟩ | he
        · exact hall H'
        · exact hp1 (i, S) (by rw [he]; simp) hij
      refine ⟨fun p hp ha => hp1 p (List.mem_append_left _ hp) ha, ih (listed.setIfInBounds j true) _ _ H' v (hcl.set hj) (ready_mono hr (Ne.symm hji)) hfree' ?_ hS' ?_ ?_⟩
      · intro H2 hS2 K2 hK2
        refine astep_put' (a := compOper P ops oi) (d := (compOper P ops oj).dst) hap.2.2 (fun d hd e => hap.2.1 d e hd) (hy H2 hS2 _ ?_)
        rw [← putL_comm _ _ _ hap.2.1] at hK2
        exact hK2
      · intro p hp
        rw [List.mem_filter] at hp
        exact hp1 p (List.mem_append_left _ hp.1) (by simpa using hp.2)
      · rw [Array.setIfInBounds_comm _ _ hji]
        refine aAnyP_pend _ (fun p hp => ?_) hG'
        rw [List.mem_append, List.mem_filter] at hp
        rw [List.mem_filter, List.mem_append]
        rcases hp with hp | hp
        · exact ⟨.inl hp.1, hp.2⟩
        · refine ⟨.inr hp, ?_⟩
          rcases hext with ⟨he, _⟩ | he
          · rw [he] at hp; cases hp
          · rw [he, List.mem_singleton] at hp; subst hp; simp [hij]

end
end Go.Proofs.YtmknkpcdfkpobaaA
