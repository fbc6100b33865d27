/- More operations: values that are built, taken apart, cut; slices that are made. -/
import Derived.Test.YtmknkpcdfkpobaaA3
set_option linter.unusedVariables false
set_option linter.unusedSimpArgs false
namespace Go.Proofs.YtmknkpcdfkpobaaA
open Go.RowKit

section
variable {P : Program} {B : Nat} {ρ : Ren} {H : AH} {w : World} {K : Value → AH → Prop}

def aun (op : UnOp) (x : Value) : Option Value :=
  match op, x with
  | .not, .bool b => some (.bool (!b))
  | .neg, .int k n => some (.int k (k.wrap (0 - n)))
  | _, _ => none

theorem aun_good {op : UnOp} {x x' r : Value} (h : aun op x = some r) (hx : VR ρ x x') (w : World) : (Op.unary op x').run P w = .ok r w ∧ VR ρ r r := by
  unfold aun at h
  split at h <;> first | (simp at h; done) | skip
  all_goals
    simp only [Option.some.injEq] at h; subst h
    cases hx
    exact ⟨by simp [Op.unary, Op.intArith], by constructor⟩

def aconv (P : Program) (src dst : TypeId) (x : Value) : Option Value :=
  match (P.underlying src).isSome, P.underlying dst, x with
  | true, some (.int k), .int _ n => some (.int k (k.wrap n))
  | true, some .string, .string s => some (.string s)
  | _, _, _ => none

theorem aconv_good {src dst : TypeId} {x x' r : Value} (h : aconv P src dst x = some r) (hx : VR ρ x x') (w : World) : (convert src dst x').run P w = .ok r w ∧ VR ρ r r := by
  unfold aconv at h
  split at h <;> first | (simp at h; done) | skip
  all_goals
    rename_i hs hd
    simp only [Option.some.injEq] at h; subst h
    cases hx
    obtain ⟨d, hd'⟩ := Option.isSome_iff_exists.1 hs
    exact ⟨by simp [convert, run_underlying hd', run_underlying hd, Conv.intToInt], by constructor⟩

/-! ### Parts of structs and arrays -/

def apart (P : Program) (t : TypeId) (cs : List Value) (off : Nat) : Option Value :=
  match aggT P t with
  | some true => if off + P.cellsOf t ≤ cs.length then some (.agg ((cs.drop off).take (P.cellsOf t)).toArray) else none
  | some false => cs[off]?
  | none => none

theorem extract_toList (c : Array Value) (a n : Nat) : (c.extract a (a + n)).toList = (c.toList.drop a).take n := by
  simp [Array.toList_extract, List.extract]

theorem apart_good {t : TypeId} {cs : List Value} {cs' : Array Value} {off : Nat} {r : Value} (h : apart P t cs off = some r) (hc : LR ρ cs cs'.toList) (w : World) :
    ∃ r', (part t cs' off).run P w = .ok r' w ∧ VR ρ r r' := by
  unfold apart at h
  cases hag : aggT P t with
  | none => simp [hag] at h
  | some ag =>
    unfold part
    cases ag with
    | false =>
      simp only [hag] at h
      obtain ⟨v', h1, h2⟩ := hc.get _ _ h
      have h1' : cs'[off]? = some v' := by simpa using h1
      exact ⟨v', by simp only [Sem.run_bind, isAgg_run hag, Result.andThen_ok, Bool.false_eq_true, if_false, h1', Sem.run_pure], h2⟩
    | true =>
      simp only [hag] at h
      split at h
      · simp only [Option.some.injEq] at h
        subst h
        obtain ⟨i, hi⟩ := info_of_aggT hag
        refine ⟨.agg (cs'.extract off (off + P.cellsOf t)), ?_, VR.aggL ?_⟩
        · simp only [Sem.run_bind, isAgg_run hag, Result.andThen_ok, if_true, run_sizeOf w hi, Sem.run_pure]
        · rw [extract_toList]
          exact (hc.drop off).take _
      · simp at h

def afield (P : Program) (t : TypeId) (x : Value) (f : Nat) : Option Value :=
  match P.underlying t, x with
  | some (.struct fields), .agg cs =>
    match fields[f]? with
    | some fd => apart P fd.type cs.toList fd.offset
    | none => none
  | _, _ => none

theorem afield_good {t : TypeId} {x x' r : Value} {f : Nat} (h : afield P t x f = some r) (hx : VR ρ x x') (w : World) :
    ∃ r', (Instr.field t x' f).run P w = .ok r' w ∧ VR ρ r r' := by
  unfold afield at h
  split at h
  · rename_i fields cs hu
    split at h
    · rename_i fd hf
      cases hx with
      | agg hs hc =>
        obtain ⟨r', h1, h2⟩ := apart_good h (LR.of_arr hs hc) w
        exact ⟨r', by simp only [Instr.field, Sem.run_bind, run_underlying hu, Result.andThen_ok, hf, asAgg, Sem.run_pure, h1], h2⟩
    · simp at h
  · simp at h

/-- An index that is within. -/
def aidx (v : Value) (n : Nat) : Option Nat :=
  match v with
  | .int _ i => if 0 ≤ i ∧ i < n then some i.toNat else none
  | _ => none

def aindex (P : Program) (t : TypeId) (x ix : Value) : Option Value :=
  match P.underlying t, x with
  | some (.array len elem), .agg cs =>
    match aidx ix len with
    | some i => if (P.info? elem).isSome then apart P elem cs.toList (i * P.cellsOf elem) else none
    | none => none
  | some .string, .string s =>
    match aidx ix s.size with
    | some i => (s[i]?).map fun b => .int .u8 b.toNat
    | none => none
  | _, _ => none

theorem aindex_good {t : TypeId} {x x' ix ix' r : Value} (h : aindex P t x ix = some r) (hx : VR ρ x x') (hi : VR ρ ix ix') (w : World) :
    ∃ r', (Instr.index t x' ix').run P w = .ok r' w ∧ VR ρ r r' := by
  unfold aindex at h
  split at h
  · rename_i len elem cs hu
    split at h
    · rename_i i hai
      split at h
      · rename_i hsome
        obtain ⟨inf, hinf⟩ := Option.isSome_iff_exists.1 hsome
        unfold aidx at hai
        split at hai
        · rename_i k n
          split at hai
          · rename_i hin
            simp only [Option.some.injEq] at hai; subst hai
            cases hi
            cases hx with
            | agg hs hc =>
              obtain ⟨r', h1, h2⟩ := apart_good h (LR.of_arr hs hc) w
              refine ⟨r', ?_, h2⟩
              simp only [Instr.index, asIntOf, Sem.run_bind, Sem.run_pure, Result.andThen_ok, run_underlying hu, Sem.run_ite, if_pos hin, run_sizeOf w hinf, h1]
          · simp at hai
        · simp at hai
      · simp at h
    · simp at h
  · rename_i s hu
    split at h
    · rename_i i hai
      unfold aidx at hai
      split at hai
      · rename_i k n
        split at hai
        · rename_i hin
          simp only [Option.some.injEq] at hai; subst hai
          cases hi
          cases hx
          simp only [Option.map_eq_some_iff] at h
          obtain ⟨b, hb, rfl⟩ := h
          refine ⟨.int .u8 b.toNat, ?_, by constructor⟩
          simp only [Instr.index, asIntOf, Sem.run_bind, Sem.run_pure, Result.andThen_ok, run_underlying hu, if_pos hin.1, hb]
        · simp at hai
      · simp at hai
    · simp at h
  · simp at h

/-! ### Places -/

def afieldAddr (P : Program) (t : TypeId) (x : Value) (f : Nat) : Option Value :=
  match P.underlying t, x with
  | some (.struct fields), .pointer (some ⟨b, o, none⟩) =>
    match fields[f]? with
    | some fd => if (P.info? fd.type).isSome ∧ P.cellsOf fd.type ≠ 0 then some (.pointer (some ⟨b, o + fd.offset, none⟩)) else none
    | none => none
  | some (.struct fields), .func (.method _) cs _ =>
    match fields[f]? with
    | some fd => if (P.info? fd.type).isSome ∧ P.cellsOf fd.type ≠ 0 then some (FP (cs.toList.drop fd.offset)) else none
    | none => none
  | _, _ => none

theorem afieldAddr_good {t : TypeId} {x x' r : Value} {f : Nat} (h : afieldAddr P t x f = some r) (hx : VR ρ x x') (w : World) :
    ∃ r', (Instr.fieldAt t x' f).run P w = .ok r' w ∧ VR ρ r r' := by
  unfold afieldAddr at h
  split at h
  · rename_i fields b o hu
    split at h
    · rename_i fd hf
      split at h
      · rename_i hc
        obtain ⟨inf, hinf⟩ := Option.isSome_iff_exists.1 hc.1
        simp only [Option.some.injEq] at h; subst h
        cases hx with
        | ptr hr =>
          refine ⟨_, ?_, .ptr hr⟩
          simp only [Instr.fieldAt, Sem.run_bind, run_underlying hu, Result.andThen_ok, hf, Instr.sureAddr, Sem.run_pure, fieldPlace, run_sizeOf w hinf, Sem.run_ite, if_neg hc.2, Addr.add_none, Nat.add_assoc]
      · simp at h
    · simp at h
  · rename_i fields nm cs c0 hu
    split at h
    · rename_i fd hf
      split at h
      · rename_i hc
        obtain ⟨inf, hinf⟩ := Option.isSome_iff_exists.1 hc.1
        simp only [Option.some.injEq] at h; subst h
        cases hx with
        | func _ hm => cases hm
        | frzP hr =>
          refine ⟨_, ?_, VR.fp (frz_drop fd.offset hr)⟩
          simp only [Instr.fieldAt, Sem.run_bind, run_underlying hu, Result.andThen_ok, hf, Instr.sureAddr, Sem.run_pure, fieldPlace, run_sizeOf w hinf, Sem.run_ite, if_neg hc.2, Addr.add_none, Nat.add_assoc]
      · simp at h
    · simp at h
  · simp at h

def aindexAddr (P : Program) (t : TypeId) (x ix : Value) : Option Value :=
  match P.underlying t, x with
  | some (.array len elem), .pointer (some ⟨b, o, none⟩) =>
    match aidx ix len with
    | some i => if (P.info? elem).isSome then some (.pointer (some ⟨b, o + i * P.cellsOf elem, none⟩)) else none
    | none => none
  | some (.slice elem), .slice (some ⟨b, o, _⟩) len _ =>
    match aidx ix len with
    | some i => if (P.info? elem).isSome then some (.pointer (some ⟨b, o + i * P.cellsOf elem, none⟩)) else none
    | none => none
  | some (.array len elem), .func (.method _) cs _ =>
    match aidx ix len with
    | some i => if (P.info? elem).isSome then some (FP (cs.toList.drop (i * P.cellsOf elem))) else none
    | none => none
  | some (.slice elem), .func (.methodOf len _) cs _ =>
    match aidx ix len with
    | some i => if (P.info? elem).isSome then some (FP (cs.toList.drop (i * P.cellsOf elem))) else none
    | none => none
  | _, _ => none

theorem aidx_some {v : Value} {n i : Nat} (h : aidx v n = some i) : ∃ k z, v = .int k z ∧ (0 ≤ z ∧ z < n) ∧ i = z.toNat := by
  unfold aidx at h
  split at h
  · rename_i k z
    split at h
    · rename_i hin
      simp only [Option.some.injEq] at h
      exact ⟨k, z, rfl, hin, h.symm⟩
    · simp at h
  · simp at h

theorem aindexAddr_good {t : TypeId} {x x' ix ix' r : Value} (h : aindexAddr P t x ix = some r) (hx : VR ρ x x') (hi : VR ρ ix ix') (w : World) :
    ∃ r', (Instr.indexAt t x' ix').run P w = .ok r' w ∧ VR ρ r r' := by
  unfold aindexAddr at h
  split at h
  · rename_i len elem b o hu
    split at h
    · rename_i i hai
      split at h
      · rename_i hsome
        obtain ⟨inf, hinf⟩ := Option.isSome_iff_exists.1 hsome
        obtain ⟨k, z, rfl, hin, rfl⟩ := aidx_some hai
        simp only [Option.some.injEq] at h; subst h
        cases hi
        cases hx with
        | ptr hr =>
          refine ⟨_, ?_, .ptr hr⟩
          simp only [Instr.indexAt, asIntOf, Sem.run_bind, Sem.run_pure, Result.andThen_ok, run_underlying hu, Instr.sureAddr, Sem.run_ite, if_pos hin, run_sizeOf w hinf, Addr.add_none, Nat.add_assoc]
      · simp at h
    · simp at h
  · rename_i elem b o sp len cp hu
    split at h
    · rename_i i hai
      split at h
      · rename_i hsome
        obtain ⟨inf, hinf⟩ := Option.isSome_iff_exists.1 hsome
        obtain ⟨k, z, rfl, hin, rfl⟩ := aidx_some hai
        simp only [Option.some.injEq] at h; subst h
        cases hi
        cases hx with
        | slEx hr =>
          refine ⟨_, ?_, .ptr hr⟩
          simp only [Instr.indexAt, asIntOf, Sem.run_bind, Sem.run_pure, Result.andThen_ok, run_underlying hu, Sem.run_ite, if_pos hin, run_sizeOf w hinf, Addr.add_none, Nat.add_assoc]
        | slZ => omega
      · simp at h
    · simp at h
  · rename_i len elem nm cs c0 hu
    split at h
    · rename_i i hai
      split at h
      · rename_i hsome
        obtain ⟨inf, hinf⟩ := Option.isSome_iff_exists.1 hsome
        obtain ⟨k, z, rfl, hin, rfl⟩ := aidx_some hai
        simp only [Option.some.injEq] at h; subst h
        cases hi
        cases hx with
        | func _ hm => cases hm
        | frzP hr =>
          refine ⟨_, ?_, VR.fp (frz_drop (z.toNat * P.cellsOf elem) hr)⟩
          simp only [Instr.indexAt, asIntOf, Sem.run_bind, Sem.run_pure, Result.andThen_ok, run_underlying hu, Instr.sureAddr, Sem.run_ite, if_pos hin, run_sizeOf w hinf, Addr.add_none, Nat.add_assoc]
      · simp at h
    · simp at h
  · rename_i elem len nm cs c0 hu
    split at h
    · rename_i i hai
      split at h
      · rename_i hsome
        obtain ⟨inf, hinf⟩ := Option.isSome_iff_exists.1 hsome
        obtain ⟨k, z, rfl, hin, rfl⟩ := aidx_some hai
        simp only [Option.some.injEq] at h; subst h
        cases hi
        cases hx with
        | func _ hm => cases hm
        | frzS hc hr =>
          refine ⟨_, ?_, VR.fp (frz_drop (z.toNat * P.cellsOf elem) hr)⟩
          simp only [Instr.indexAt, asIntOf, Sem.run_bind, Sem.run_pure, Result.andThen_ok, run_underlying hu, Sem.run_ite, if_pos hin, run_sizeOf w hinf, Addr.add_none, Nat.add_assoc]
        | frzN => omega
        | frzZ => omega
      · simp at h
    · simp at h
  · simp at h

/-! ### Interfaces, functions, tuples -/

def aiface (P : Program) (t : TypeId) (x : Value) : Option Value :=
  match P.underlying t with
  | some (.interface _) => none
  | some _ => some (.iface t x)
  | none => none

theorem aiface_good {t : TypeId} {x x' r : Value} (h : aiface P t x = some r) (hx : VR ρ x x') (w : World) : ∃ r', (Instr.makeInterface t x').run P w = .ok r' w ∧ VR ρ r r' := by
  unfold aiface at h
  split at h <;> first | (simp at h; done) | skip
  rename_i d hne hu
  simp only [Option.some.injEq] at h; subst h
  refine ⟨.iface t x', ?_, .iface t hx⟩
  unfold Instr.makeInterface
  simp only [Sem.run_bind, run_underlying hu, Result.andThen_ok]
  cases d <;> first | rfl | exact absurd rfl (hne _)

def aextract (x : Value) (i : Nat) : Option Value :=
  match x with
  | .tuple vs => vs.toList[i]?
  | _ => none

theorem aextract_good {x x' r : Value} {i : Nat} (h : aextract x i = some r) (hx : VR ρ x x') (w : World) : ∃ r', (Instr.extract x' i).run P w = .ok r' w ∧ VR ρ r r' := by
  unfold aextract at h
  split at h
  · cases hx with
    | tuple hs hc =>
      obtain ⟨v', h1, h2⟩ := (LR.of_arr hs hc).get _ _ h
      have h1' := h1
      rw [Array.getElem?_toList] at h1'
      exact ⟨v', by simp only [Instr.extract, h1', Sem.run_pure], h2⟩
  · simp at h

def aassert (P : Program) (x : Value) (xT asserted : TypeId) (commaOk : Bool) : Option Value :=
  match P.underlying asserted, x with
  | some (.interface _), .nilIface =>
    if commaOk then (tzero P asserted).bind fun z => if closed z then some (.tuple #[z, .bool false]) else none else none
  | some (.interface want), .iface t v =>
    match P.info? t with
    | some inf =>
      match Instr.missingMethod want inf.methods with
      | none => some (if commaOk then .tuple #[x, .bool true] else x)
      | some _ => if commaOk then (tzero P asserted).bind fun z => if closed z then some (.tuple #[z, .bool false]) else none else none
    | none => none
  | some _, .nilIface => if commaOk then (tzero P asserted).bind fun z => if closed z then some (.tuple #[z, .bool false]) else none else none
  | some _, .iface t v =>
    if t = asserted then some (if commaOk then .tuple #[v, .bool true] else v)
    else if commaOk then (tzero P asserted).bind fun z => if closed z then some (.tuple #[z, .bool false]) else none else none
  | _, _ => none

theorem tzero_run {t : TypeId} {z : Value} (h : tzero P t = some z) (w : World) : (zeroValue t).run P w = .ok z w := by
  unfold tzero at h
  obtain ⟨i, hi, hz⟩ := Option.bind_eq_some_iff.1 h
  simp [zeroValue, run_typeInfo w hi, hz]

theorem VR.pair {a a' b b' : Value} (h : VR ρ a a') (k : VR ρ b b') : VR ρ (.tuple #[a, b]) (.tuple #[a', b']) := VR.tupleL ⟨h, k, trivial⟩

theorem aassert_good {x x' r : Value} {xT asserted : TypeId} {ok : Bool} (h : aassert P x xT asserted ok = some r) (hx : VR ρ x x') (w : World) :
    ∃ r', (Instr.typeAssert x' xT asserted ok).run P w = .ok r' w ∧ VR ρ r r' := by
  have hfail : ∀ {r}, (tzero P asserted).bind (fun z => if closed z then some (.tuple #[z, .bool false]) else none) = some r → ∃ z, tzero P asserted = some z ∧ r = .tuple #[z, .bool false] ∧ VR ρ r r := by
    intro r hr
    obtain ⟨z, hz, hr⟩ := Option.bind_eq_some_iff.1 hr
    split at hr
    · rename_i hc
      simp only [Option.some.injEq] at hr; subst hr
      exact ⟨z, hz, rfl, VR.pair (VR.closed hc) (.bool _)⟩
    · simp at hr
  unfold aassert at h
  split at h
  · rename_i ms hu
    cases hx
    split at h
    · rename_i hok; subst hok
      obtain ⟨z, hz, rfl, hv⟩ := hfail h
      exact ⟨_, by simp [Instr.typeAssert, run_underlying hu, tzero_run hz], hv⟩
    · simp at h
  · rename_i want t v hu
    cases hx with
    | iface _ hv =>
      split at h
      · rename_i inf hinf
        split at h
        · rename_i hm
          simp only [Option.some.injEq] at h; subst h
          cases ok
          · exact ⟨_, by simp [Instr.typeAssert, run_underlying hu, run_typeInfo _ hinf, hm], .iface t hv⟩
          · exact ⟨_, by simp [Instr.typeAssert, run_underlying hu, run_typeInfo _ hinf, hm], VR.pair (.iface t hv) (.bool _)⟩
        · rename_i m hm
          split at h
          · rename_i hok; subst hok
            obtain ⟨z, hz, rfl, hv'⟩ := hfail h
            exact ⟨_, by simp [Instr.typeAssert, run_underlying hu, run_typeInfo _ hinf, hm, tzero_run hz], hv'⟩
          · simp at h
      · simp at h
  · rename_i d hne hu
    cases hx
    split at h
    · rename_i hok; subst hok
      obtain ⟨z, hz, rfl, hv⟩ := hfail h
      refine ⟨_, ?_, hv⟩
      unfold Instr.typeAssert
      simp only [Sem.run_bind, run_underlying hu, Result.andThen_ok]
      cases d <;> first | exact absurd rfl (hne _) | simp [tzero_run hz]
    · simp at h
  · rename_i d t v hne hu
    cases hx with
    | iface _ hv =>
      split at h
      · rename_i heq; subst heq
        simp only [Option.some.injEq] at h; subst h
        cases ok
        · refine ⟨_, ?_, hv⟩
          unfold Instr.typeAssert
          simp only [Sem.run_bind, run_underlying hu, Result.andThen_ok]
          cases d <;> first | exact absurd rfl (hne _) | simp
        · refine ⟨_, ?_, VR.pair hv (.bool _)⟩
          unfold Instr.typeAssert
          simp only [Sem.run_bind, run_underlying hu, Result.andThen_ok]
          cases d <;> first | exact absurd rfl (hne _) | simp
      · rename_i hne'
        split at h
        · rename_i hok; subst hok
          obtain ⟨z, hz, rfl, hv'⟩ := hfail h
          refine ⟨_, ?_, hv'⟩
          unfold Instr.typeAssert
          simp only [Sem.run_bind, run_underlying hu, Result.andThen_ok]
          cases d <;> first | exact absurd rfl (hne _) | simp [tzero_run hz, hne']
        · simp at h
  · simp at h

end
end Go.Proofs.YtmknkpcdfkpobaaA
