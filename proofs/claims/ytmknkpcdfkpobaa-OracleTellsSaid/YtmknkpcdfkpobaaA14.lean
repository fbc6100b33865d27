/- The same, in a form that a simp runs through step by step: what goes on is bound by a tag, so that the simp doesn't look into it. -/
import Derived.Test.YtmknkpcdfkpobaaA13
set_option linter.unusedVariables false
set_option linter.unusedSimpArgs false
namespace Go.Proofs.YtmknkpcdfkpobaaA
open Go.RowKit

inductive Tag.{u} {α : Sort u} (a : α) : Type
  | mk

def XB (b : Bool) (A C : Prop) (_ : Tag A) (_ : Tag C) : Prop := Branch b A C
def XS (p A : Prop) (_ : Tag A) : Prop := Side p A
def XV (o : Option Value) (H : AH) (K : Value → AH → Prop) (_ : Tag K) : Prop := okv o H K
def XC (P : Program) (f : FuncId) (args : List Value) (H : AH) (Q : Value → AH → Prop) (_ : Tag Q) : Prop := ACalls P f args H Q
def XApp (z : List Value) (bytes : Nat) (s x : Value) (H : AH) (K : Value → AH → Prop) (_ : Tag K) : Prop := rapp z bytes s x H K
def XAppz (z : List Value) (bytes : Nat) (s x : Value) (H : AH) (K : Value → AH → Prop) (_ : Tag K) : Prop := rappz z bytes s x H K
def XCopy (sz : Nat) (d x : Value) (H : AH) (K : Value → AH → Prop) (_ : Tag K) : Prop := rcopy sz d x H K
def XClear (z : List Value) (x : Value) (H : AH) (K : Value → AH → Prop) (_ : Tag K) : Prop := rclear z x H K
def XE (P : Program) (f : FuncId) (args : List Value) (H : AH) (Q : Value → AH → Prop) (_ : Tag Q) : Prop := AExt P f args H Q
theorem XE.mk' {P : Program} {f : FuncId} {args : List Value} {H : AH} {Q Q' : Value → AH → Prop} {t : Tag Q} (h1 : AExt P f args H Q') (h2 : ∀ v H', Q' v H' → Q v H') : XE P f args H Q t := h1.mono h2
def XRaw (P : Program) (env : List Value) (o : Op) (H : AH) (K : Value → AH → Prop) (_ : Tag K) : Prop := aopc P (evalL env) o H K

def XPend (p A : Prop) (_ : Tag A) : Prop := p ∧ A
theorem XPend.mk' {p A : Prop} {t : Tag A} (h1 : p) (h2 : A) : XPend p A t := ⟨h1, h2⟩
theorem XPend_true (A : Prop) (t : Tag A) : XPend True A t = A := by simp [XPend]

theorem XB_true (A C : Prop) (t : Tag A) (u : Tag C) : XB true A C t u = A := Branch_true A C
theorem XB_false (A C : Prop) (t : Tag A) (u : Tag C) : XB false A C t u = C := Branch_false A C
theorem XS_true (A : Prop) (t : Tag A) : XS True A t = A := Side_true A
theorem XV_some (v : Value) (H : AH) (K : Value → AH → Prop) (t : Tag K) : XV (some v) H K t = K v H := rfl

theorem XB.mk' {b : Bool} {A C : Prop} {t : Tag A} {u : Tag C} (h1 : b = true → A) (h2 : b = false → C) : XB b A C t u := ⟨h1, h2⟩
theorem XS.mk' {p A : Prop} {t : Tag A} (h1 : p) (h2 : A) : XS p A t := ⟨h1, h2⟩
theorem XV.mk' {o : Option Value} {H : AH} {K : Value → AH → Prop} {t : Tag K} {v : Value} (h1 : o = some v) (h2 : K v H) : XV o H K t := by subst h1; exact h2
theorem XC.mk' {P : Program} {f : FuncId} {args : List Value} {H : AH} {Q Q' : Value → AH → Prop} {t : Tag Q} (h1 : ACalls P f args H Q') (h2 : ∀ v H', Q' v H' → Q v H') : XC P f args H Q t := h1.mono h2

def xelem (x : Value) (len sz : Nat) (i : Value) (H : AH) (K : Value → AH → Prop) (_ : Tag K) : Prop :=
  match x, i with
  | .pointer (some ⟨b, o, _⟩), .int _ i => XS (0 ≤ i ∧ i < len) (K (.pointer (some ⟨b, o + i.toNat * sz, none⟩)) H) .mk
  | .func (.method _) cs _, .int _ i => XS (0 ≤ i ∧ i < len) (K (FP (cs.toList.drop (i.toNat * sz))) H) .mk
  | _, _ => False

def xload1 (a : Value) (H : AH) (K : Value → AH → Prop) (_ : Tag K) : Prop :=
  match a with
  | .pointer (some ⟨b, o, none⟩) => XV (rload1 H b o) H K .mk
  | .func (.method _) cs _ => XV (cs.toList[0]?) H K .mk
  | _ => False

def xloadN (n : Nat) (a : Value) (H : AH) (K : Value → AH → Prop) (_ : Tag K) : Prop :=
  match a with
  | .pointer (some ⟨b, o, none⟩) => XV (rloadN H n b o) H K .mk
  | .func (.method _) cs _ => XV (if n ≤ cs.toList.length then some (.agg (cs.toList.take n).toArray) else none) H K .mk
  | _ => False

/-- A store: what stood there, and what stands there then. -/
def xstore (n : Nat) (a v : Value) (H : AH) (K : AH → Prop) (_ : Tag K) : Prop :=
  match a with
  | .pointer (some ⟨b, o, none⟩) => rstore H n b o v K
  | _ => False

theorem xstore.mk' {n b o : Nat} {v : Value} {H : AH} {K : AH → Prop} {t : Tag K} {cs : List Value} (hb : H.blk b = some (.cells cs true)) (h1 : (cellsL v).length = n) (h2 : (cellsL v).all okCell = true) (h3 : o + n ≤ cs.length)
    (h : K (H.set b (.cells (splice cs o (cellsL v)) true))) : xstore n (.pointer (some ⟨b, o, none⟩)) v H K t := by
  show rstore H n b o v K
  unfold rstore
  rw [hb]
  exact ⟨⟨h1, h2, h3⟩, h⟩

def xquo (rem : Bool) (x y : Value) (H : AH) (K : Value → AH → Prop) (_ : Tag K) : Prop :=
  match x, y with
  | .int k a, .int k' b => XS (k = k' ∧ b ≠ 0) (K (.int k (if rem then a.tmod b else k.wrap (a.tdiv b))) H) .mk
  | _, _ => False

/-- A literal of a slice: one's own, or one that no one will write. -/
def XBsl (l : List Value) (len : Nat) (H : AH) (K : Value → AH → Prop) (_ : Tag K) : Prop := l.all okCell = true ∧ zK l (.slice (some ⟨H.next, 0, some 0⟩) len len) (FS l len) H K
def XBox (cs : List Value) (H : AH) (K : Value → AH → Prop) (_ : Tag K) : Prop := abox H cs K

theorem noIds_ok {l : List Value} (h : l.all noId = true) : l.all okCell = true := by
  rw [List.all_eq_true] at h ⊢
  exact fun v hv => noId_ok (h v hv)

theorem XBsl.rw {l : List Value} {len : Nat} {H : AH} {K : Value → AH → Prop} {t : Tag K} (h : l.all okCell = true) (k : K (.slice (some ⟨H.next, 0, some 0⟩) len len) (H.alloc (.cells l true))) : XBsl l len H K t := ⟨h, .inl k⟩
theorem XBsl.z {l : List Value} {len : Nat} {H : AH} {K : Value → AH → Prop} {t : Tag K} (h : l.all noId = true) (k : K (FS l len) H) : XBsl l len H K t := ⟨noIds_ok h, .inr ⟨h, k⟩⟩
theorem XBox.rw {cs : List Value} {H : AH} {K : Value → AH → Prop} {t : Tag K} (h : cs.all okCell = true) (k : K (.pointer (some ⟨H.next, 0, none⟩)) (H.alloc (.cells cs true))) : XBox cs H K t := ⟨h, .inl k⟩
theorem XBox.z {cs : List Value} {H : AH} {K : Value → AH → Prop} {t : Tag K} (h : cs.all noId = true) (k : K (FP cs) H) : XBox cs H K t := ⟨noIds_ok h, .inr ⟨h, k⟩⟩

/-- A call of a function value, or by an interface. -/
def XCv (P : Program) (f : Value) (args : List Value) (H : AH) (K : Value → AH → Prop) (_ : Tag K) : Prop := rcallv P f args H K
def XInv (P : Program) (r : Value) (name : String) (args : List Value) (H : AH) (K : Value → AH → Prop) (_ : Tag K) : Prop := rinv P r name args H K
theorem XCv.mk' {P : Program} {g : FuncId} {first captured : List Value} {args : List Value} {H : AH} {Q Q' : Value → AH → Prop} {t : Tag Q} (hc : callable P g = true) (h1 : ACalls P g (first ++ args ++ captured) H Q') (h2 : ∀ v H', Q' v H' → Q v H') :
    XCv P (.func (.func g) first.toArray captured.toArray) args H Q t := ⟨hc, h1.mono h2⟩
theorem XInv.mk' {P : Program} {g : FuncId} {T : TypeId} {v : Value} {name : String} {args : List Value} {H : AH} {Q Q' : Value → AH → Prop} {t : Tag Q} (hm : amethod P T v name = some g) (hc : callable P g = true) (h1 : ACalls P g (v :: args) H Q') (h2 : ∀ v H', Q' v H' → Q v H') :
    XInv P (.iface T v) name args H Q t := ⟨g, hm, hc, h1.mono h2⟩

/-- A slice of an array. -/
def xslA (n sz : Nat) (x : Value) (lo hi : Option Value) (H : AH) (K : Value → AH → Prop) (_ : Tag K) : Prop := rslA n sz x lo hi H K

def xbsl (z : List Value) (sz len : Nat) (parts : List (Nat × Value)) (H : AH) (K : Value → AH → Prop) (_ : Tag K) : Prop :=
  match afill (fun i => some (i * sz, sz)) (zrow z len) parts with
  | some l => XBsl l len H K .mk
  | none => False

def xsl (sz : Nat) (x : Value) (lo hi mx : Option Value) (H : AH) (K : Value → AH → Prop) (_ : Tag K) : Prop :=
  match x with
  | .slice none 0 0 =>
    match rbnd lo 0, rbnd hi 0, mx with
    | some l, some h, none => XS (l = 0 ∧ h = 0) (K (.slice none 0 0) H) .mk
    | _, _, _ => False
  | .slice (some ⟨b, o, some 0⟩) len cap =>
    match rbnd lo 0, rbnd hi len, rbnd mx cap with
    | some l, some h, some m => XS (0 ≤ l ∧ l ≤ h ∧ h ≤ m ∧ m ≤ cap ∧ (mx.isSome = true → hi.isSome = true)) (K (.slice (some ⟨b, o + l.toNat * sz, some 0⟩) (h.toNat - l.toNat) (m.toNat - l.toNat)) H) .mk
    | _, _, _ => False
  | .func (.methodOf len _) cs _ =>
    match rbnd lo 0, rbnd hi len, mx with
    | some l, some h, none => XS (0 ≤ l ∧ l ≤ h ∧ h ≤ len) (K (FS ((cs.toList.drop (l.toNat * sz)).take ((h.toNat - l.toNat) * sz)) (h.toNat - l.toNat)) H) .mk
    | _, _, _ => False
  | _ => False

def xmks (z : List Value) (bytes : Nat) (l c : Value) (H : AH) (K : Value → AH → Prop) (_ : Tag K) : Prop :=
  match l, c with
  | .int _ l, .int _ c => XS (0 ≤ l ∧ l ≤ c ∧ c ≤ 9223372036854775807 ∧ bytes * c ≤ 281474976710656) (K (.slice (some ⟨H.next, 0, some 0⟩) l.toNat c.toNat) (H.alloc (.cells (zrow z c.toNat) true))) .mk
  | _, _ => False

def xnew (H : AH) (cs : List Value) (K : Value → AH → Prop) (_ : Tag K) : Prop :=
  XS (cs.all okCell = true) (K (.pointer (some ⟨H.next, 0, none⟩)) (H.alloc (.cells cs true))) .mk

def xpick (c a b : Value) (H : AH) (K : Value → AH → Prop) (_ : Tag K) : Prop :=
  match c with
  | .bool t => XB t (K a H) (K b H) .mk .mk
  | _ => False

def xnot (x : Value) : Option Value :=
  match x with
  | .bool b => some (.bool (!b))
  | _ => none

def xrop (P : Program) (env : List Value) (r : ROp) (H : AH) (K : Value → AH → Prop) (t : Tag K) : Prop :=
  match r with
  | .raw o => XRaw P env o H K .mk
  | .move x => K (x.ev env) H
  | .pick c a b => xpick (c.ev env) (a.ev env) (b.ev env) H K .mk
  | .load1 a => xload1 (a.ev env) H K .mk
  | .loadN n a => xloadN n (a.ev env) H K .mk
  | .store n a x => xstore n (a.ev env) (x.ev env) H (K undef) .mk
  | .addr x k => XV (raddr (x.ev env) k) H K .mk
  | .elemS sz x i => xelem (base (x.ev env)) (slen (x.ev env)) sz (i.ev env) H K .mk
  | .elemA len sz x i => xelem (baseA (x.ev env)) len sz (i.ev env) H K .mk
  | .fld1 x off => XV (rfld1 (x.ev env) off) H K .mk
  | .fldN x off n => XV (rfldN (x.ev env) off n) H K .mk
  | .lenS x => XV (rlenS (x.ev env)) H K .mk
  | .lenSl x => XV (rlenSl (x.ev env)) H K .mk
  | .extract x i => XV (aextract (x.ev env) i) H K .mk
  | .int op x y => XV (rint op (x.ev env) (y.ev env)) H K .mk
  | .not x => XV (xnot (x.ev env)) H K .mk
  | .alloc z => xnew H z K .mk
  | .box x => XBox (cellsL (x.ev env)) H K .mk
  | .iface t x => K (.iface t (x.ev env)) H
  | .nilCheck x => XS (nonNil (x.ev env) = true) (K (x.ev env) H) .mk
  | .call f args => XC P f (args.map (·.ev env)) H K .mk
  | .neg x => XV (rneg (x.ev env)) H K .mk
  | .quo rem x y => xquo rem (x.ev env) (y.ev env) H K .mk
  | .app z bytes s x => XApp z bytes (s.ev env) (x.ev env) H K .mk
  | .appz z bytes s x => XAppz z bytes (s.ev env) (x.ev env) H K .mk
  | .ext f args => XE P f (args.map (·.ev env)) H K .mk
  | .cap x => XV (rcap (x.ev env)) H K .mk
  | .nilv k ne x => XV (rnil k ne (x.ev env)) H K .mk
  | .cvt k x => XV (rcvt k (x.ev env)) H K .mk
  | .cvs x => XV (rcvs (x.ev env)) H K .mk
  | .bit op x y => XV (rbit op (x.ev env) (y.ev env)) H K .mk
  | .bb ne x y => XV (rbb ne (x.ev env) (y.ev env)) H K .mk
  | .eqA ne ks x y => XV (reqA ne ks (x.ev env) (y.ev env)) H K .mk
  | .mm mx x y => XV (amm2 mx (x.ev env) (y.ev env)) H K .mk
  | .slA n sz x lo hi => xslA n sz (x.ev env) (lo.map (·.ev env)) (hi.map (·.ev env)) H K .mk
  | .callv f args => XCv P (f.ev env) (args.map (·.ev env)) H K .mk
  | .inv r name args => XInv P (r.ev env) name (args.map (·.ev env)) H K .mk
  | .tass x xT t ok => XV (aassert P (x.ev env) xT t ok) H K .mk
  | .mkf fn first captured => XS (fnOk fn = true) (K (.func fn (first.map (·.ev env)).toArray (captured.map (·.ev env)).toArray) H) .mk
  | .copy sz d x => XCopy sz (d.ev env) (x.ev env) H K .mk
  | .clear z x => XClear z (x.ev env) H K .mk
  | .bsl z sz len parts => xbsl z sz len (parts.map fun p => (p.1, p.2.ev env)) H K .mk
  | .build z places parts => XV (rbuild z places (parts.map fun p => (p.1, p.2.ev env))) H K .mk
  | .sl sz x lo hi mx => xsl sz (x.ev env) (lo.map (·.ev env)) (hi.map (·.ev env)) (mx.map (·.ev env)) H K .mk
  | .mks z bytes l c => xmks z bytes (l.ev env) (c.ev env) H K .mk

theorem xrop_rop {P : Program} {env : List Value} {r : ROp} {H : AH} {K : Value → AH → Prop} {t : Tag K} (h : xrop P env r H K t) : rop P env r H K := by
  cases r
  case elemS sz x i => simp only [xrop, xelem] at h; simp only [rop, relem]; exact h
  case elemA len sz x i => simp only [xrop, xelem] at h; simp only [rop, relem]; exact h
  case load1 a => simp only [xrop, xload1] at h; exact h
  case loadN n a => simp only [xrop, xloadN] at h; exact h
  case store n a x => simp only [xrop, xstore] at h; exact h
  case pick c a b => simp only [xrop, xpick] at h; exact h
  case quo rem x y => simp only [xrop, xquo] at h; exact h
  case bsl z sz len parts => simp only [xrop, xbsl] at h; exact h
  case sl sz x lo hi mx => simp only [xrop, xsl] at h; exact h
  case mks z bytes l c => simp only [xrop, xmks] at h; exact h
  case not x =>
    obtain ⟨v, hv, hK⟩ := okv_some (show okv (xnot (x.ev env)) H K from h)
    unfold xnot at hv
    split at hv
    · rename_i b hb
      simp only [Option.some.injEq] at hv; subst hv
      simp only [rop, hb]; exact hK
    · simp at hv
  all_goals exact h

def xstep (P : Program) (env : List Value) (H : AH) (a : AOp) (K : List Value → AH → Prop) (t : Tag K) : Prop :=
  match a.g with
  | none => xrop P env a.op H (fun v H' => K (putL env a.dst v) H') .mk
  | some (gt, want) =>
    match gt.bind (env[·]?) with
    | some (.bool b) => XB (b == want) (xrop P env a.op H (fun v H' => K (putL env a.dst v) H') .mk) (K (putL env a.dst undef) H) .mk .mk
    | some (.chan _) => False
    | _ => K (putL env a.dst undef) H

theorem xstep_astep {P : Program} {env : List Value} {H : AH} {a : AOp} {K : List Value → AH → Prop} {t : Tag K} (h : xstep P env H a K t) : astep P env H a K := by
  obtain ⟨d, g, op⟩ := a
  cases g with
  | none => exact xrop_rop (t := .mk) h
  | some gw =>
    obtain ⟨gt, want⟩ := gw
    simp only [xstep] at h
    simp only [astep]
    cases hb : (gt.bind fun x => env[x]?) with
    | none => simp only [hb] at h ⊢; exact h
    | some v =>
      simp only [hb] at h ⊢
      cases v with
      | bool b => exact Branch.mono h xrop_rop id
      | chan r => exact h
      | _ => exact h

def xops (P : Program) : (l : List AOp) → List Value → AH → (K : List Value → AH → Prop) → Tag K → Tag l → Prop
  | [], env, H, K, _, _ => K env H
  | a :: l, env, H, K, _, _ => xstep P env H a (fun env' H' => xops P l env' H' K .mk .mk) .mk

theorem xops_aops {P : Program} : ∀ (l : List AOp) {env : List Value} {H : AH} {K : List Value → AH → Prop} {t : Tag K} {u : Tag l}, xops P l env H K t u → aops P l env H K
  | [], _, _, _, _, _, h => h
  | _ :: l, _, _, _, _, _, h => astep_mono (fun _ _ h => xops_aops l h) (xstep_astep h)

/-- What was read, and may yet be read. -/
abbrev Pend := List (Nat × (AH → Prop))

def xld1 (a v : Value) (H : AH) : Prop :=
  match a with
  | .pointer (some ⟨b, o, none⟩) => rload1 H b o = some v
  | .func (.method _) cs _ => cs.toList[0]? = some v
  | _ => False

def xldN (n : Nat) (a v : Value) (H : AH) : Prop :=
  match a with
  | .pointer (some ⟨b, o, none⟩) => rloadN H n b o = some v
  | .func (.method _) cs _ => n ≤ cs.toList.length ∧ v = .agg (cs.toList.take n).toArray
  | _ => False

/-- What was read would be read in this heap, too. -/
def ldOK (P : Program) (env : List Value) (a : AOp) (env' : List Value) (H : AH) : Prop :=
  match a with
  | ⟨some d, none, .load1 x⟩ => xld1 (x.ev env) (env'.getD d undef) H
  | ⟨some d, none, .loadN n x⟩ => xldN n (x.ev env) (env'.getD d undef) H
  | a => astep P env H a (fun e2 H3 => e2 = env' ∧ H3 = H)

theorem set_getD {env : List Value} {d : Nat} {u : Value} : putL env (some d) ((putL env (some d) u).getD d undef) = putL env (some d) u := by
  simp only [putL]
  by_cases h : d < env.length
  · simp [List.getD, h]
  · have h1 : ∀ v : Value, env.set d v = env := fun v => List.set_eq_of_length_le (by omega)
    rw [h1, h1]

theorem ldOK_astep {P : Program} {env env' : List Value} {a : AOp} {H : AH} {u : Value} (he : env' = putL env a.dst u) (h : ldOK P env a env' H) : astep P env H a (fun e2 H3 => e2 = env' ∧ H3 = H) := by
  unfold ldOK at h
  split at h
  · rename_i d x
    subst he
    simp only [astep, rop]
    unfold xld1 at h
    split at h
    · rename_i b o hx
      rw [hx]
      simp only [h, okv]
      exact ⟨set_getD, trivial⟩
    · rename_i nm cs c0 hx
      rw [hx]
      simp only [h, okv]
      exact ⟨set_getD, trivial⟩
    · exact h.elim
  · rename_i d n x
    subst he
    simp only [astep, rop]
    unfold xldN at h
    split at h
    · rename_i b o hx
      rw [hx]
      simp only [h, okv]
      exact ⟨set_getD, trivial⟩
    · rename_i nm cs c0 hx
      rw [hx]
      simp only [if_pos h.1, okv, ← h.2]
      exact ⟨set_getD, trivial⟩
    · exact h.elim
  · exact h

theorem areg_pend {P : Program} : ∀ (r : RT) {pend pend' : Pend} {env : List Value} {H : AH} {K : List Value → AH → Prop}, (∀ p ∈ pend, ∃ q ∈ pend', q.1 = p.1 ∧ ∀ H, q.2 H → p.2 H) →
    areg P r pend' env H K → areg P r pend env H K
  | .nil, _, _, _, _, _, _, h => h
  | .bad, _, _, _, _, _, _, h => h
  | .pu a r, _, _, _, _, _, hp, h => astep_mono (fun _ _ h => areg_pend r hp h) h
  | .ld id a r, _, _, _, _, _, hp, h => astep_mono (fun _ _ h => areg_pend r (fun p hpm => by
      rw [List.mem_append] at hpm
      rcases hpm with hpm | hpm
      · obtain ⟨q, hq, hh⟩ := hp p hpm; exact ⟨q, List.mem_append_left _ hq, hh⟩
      · exact ⟨p, List.mem_append_right _ hpm, rfl, fun _ h => h⟩) h) h
  | .eff a drop r, _, _, _, _, _, hp, h => astep_mono (fun _ _ h => ⟨fun p hpm hd => by
      obtain ⟨q, hq, h1, h2⟩ := hp p hpm
      exact h2 _ (h.1 q hq (by rw [h1]; exact hd)), areg_pend r (fun p hpm => by
      rw [List.mem_filter] at hpm
      obtain ⟨q, hq, h1, h2⟩ := hp p hpm.1
      exact ⟨q, List.mem_filter.2 ⟨hq, by rw [h1]; exact hpm.2⟩, h1, h2⟩) h.2⟩) h
  | .both r s, _, _, _, _, _, hp, h => ⟨areg_pend r hp h.1, areg_pend s hp h.2⟩

def xreg (P : Program) : (r : RT) → (pend : Pend) → List Value → AH → (K : List Value → AH → Prop) → Tag K → Tag r → Tag pend → Prop
  | .nil, _, env, H, K, _, _, _ => K env H
  | .bad, _, _, _, _, _, _, _ => False
  | .pu a r, pend, env, H, K, _, _, _ => xstep P env H a (fun env' H' => xreg P r pend env' H' K .mk .mk .mk) .mk
  | .ld id a r, pend, env, H, K, _, _, _ => xstep P env H a (fun env' H' => xreg P r (pend ++ [(id, fun H2 => ldOK P env a env' H2)]) env' H' K .mk .mk .mk) .mk
  | .eff a drop r, pend, env, H, K, _, _, _ => xstep P env H a (fun env' H' => XPend (H' ≠ H → ∀ p ∈ pend, drop.contains p.1 = false → p.2 H') (xreg P r (pend.filter fun p => !drop.contains p.1) env' H' K .mk .mk .mk) .mk) .mk
  | .both r s, pend, env, H, K, _, _, _ => xreg P r pend env H K .mk .mk .mk ∧ xreg P s pend env H K .mk .mk .mk

/-- Only what looks is taken as such. -/
def rtOK : RT → Bool
  | .nil | .bad => true
  | .pu a r => (pureK a.op).isSome && rtOK r
  | .ld _ a r => (pureK a.op).isSome && rtOK r
  | .eff _ _ r => rtOK r
  | .both r s => rtOK r && rtOK s

def acOK : AC → Bool
  | .reg r => rtOK r
  | .seq a b | .cond _ a b => acOK a && acOK b
  | .block _ a | .loop a => acOK a
  | _ => true

theorem xreg_areg {P : Program} : ∀ (r : RT) (hok : rtOK r = true) {pend pendS : Pend} {env : List Value} {H : AH} {K : List Value → AH → Prop} {t : Tag K} {u : Tag r} {v : Tag pend},
    (∀ q ∈ pendS, ∃ p ∈ pend, p.1 = q.1 ∧ ∀ H, p.2 H → q.2 H) → (∀ q ∈ pendS, q.2 H) → xreg P r pend env H K t u v → areg P r pendS env H K
  | .nil, _, _, _, _, _, _, _, _, _, _, _, h => h
  | .bad, _, _, _, _, _, _, _, _, _, _, _, h => h
  | .pu a r, hok, _, _, _, _, _, _, _, _, hp, hq, h => by
    simp only [rtOK, Bool.and_eq_true] at hok
    obtain ⟨b, hb⟩ := Option.isSome_iff_exists.1 hok.1
    obtain ⟨x, hK, hY, _⟩ := astep_pure hb (xstep_astep h)
    exact hY _ (xreg_areg r hok.2 hp hq hK)
  | .ld id a r, hok, _, _, _, _, _, _, _, _, hp, hq, h => by
    simp only [rtOK, Bool.and_eq_true] at hok
    obtain ⟨b, hb⟩ := Option.isSome_iff_exists.1 hok.1
    obtain ⟨x, hK, hY, _⟩ := astep_pure hb (xstep_astep h)
    refine hY _ (xreg_areg r hok.2 (fun q hqm => ?_) (fun q hqm => ?_) hK)
    · rw [List.mem_append, List.mem_singleton] at hqm
      rcases hqm with hqm | rfl
      · obtain ⟨p, g1, g2⟩ := hp q hqm
        exact ⟨p, List.mem_append_left _ g1, g2⟩
      · exact ⟨_, List.mem_append_right _ (List.mem_singleton.2 rfl), rfl, fun _ h => ldOK_astep rfl h⟩
    · rw [List.mem_append, List.mem_singleton] at hqm
      rcases hqm with hqm | rfl
      · exact hq q hqm
      · exact hY (fun e2 H3 => e2 = _ ∧ H3 = _) ⟨rfl, rfl⟩
  | .eff a drop r, hok, pend, pendS, _, H, _, _, _, _, hp, hq, h => astep_mono (fun _ H' h => by
      have key : ∀ q ∈ pendS, drop.contains q.1 = false → q.2 H' := fun q hqm hd => by
        by_cases e : H' = H
        · rw [e]; exact hq q hqm
        · obtain ⟨p, g1, g2, g3⟩ := hp q hqm
          exact g3 _ (h.1 e p g1 (by rw [g2]; exact hd))
      refine ⟨key, xreg_areg r hok (fun q hqm => ?_) (fun q hqm => ?_) h.2⟩
      · rw [List.mem_filter] at hqm
        obtain ⟨p, g1, g2, g3⟩ := hp q hqm.1
        exact ⟨p, List.mem_filter.2 ⟨g1, by rw [g2]; exact hqm.2⟩, g2, g3⟩
      · rw [List.mem_filter] at hqm
        exact key q hqm.1 (by simpa using hqm.2)) (xstep_astep h)
  | .both r s, hok, _, _, _, _, _, _, _, _, hp, hq, h => by
    simp only [rtOK, Bool.and_eq_true] at hok
    exact ⟨xreg_areg r hok.1 hp hq h.1, xreg_areg s hok.2 hp hq h.2⟩

/-- A loop: what holds at each round's head, by states; a measure. -/
def XL (P : Program) (a : AC) (Q : AEx → List Value → AH → Prop) (env : List Value) (H : AH) (_ : Tag a) (_ : Tag Q) : Prop := acOK a = true → wpa P (.loop a) Q env H

def xcond (c : Value) (A C : Prop) (_ : Tag A) (_ : Tag C) : Prop :=
  match c with
  | .bool t => XB t A C .mk .mk
  | _ => False

def xwp (P : Program) : (a : AC) → (Q : AEx → List Value → AH → Prop) → List Value → AH → Tag Q → Tag a → Prop
  | .skip, Q, env, H, _, _ => Q .normal env H
  | .ret, Q, env, H, _, _ => Q .ret env H
  | .exit id, Q, env, H, _, _ => Q (.exit id) env H
  | .ops l, Q, env, H, _, _ => xops P l env H (Q .normal) .mk .mk
  | .reg r, Q, env, H, _, _ => xreg P r [] env H (Q .normal) .mk .mk .mk
  | .seq a b, Q, env, H, _, _ => xwp P a (andThen (fun env' H' => xwp P b Q env' H' .mk .mk) Q) env H .mk .mk
  | .cond c a b, Q, env, H, _, _ => xcond (c.ev env) (xwp P a Q env H .mk .mk) (xwp P b Q env H .mk .mk) .mk .mk
  | .block id a, Q, env, H, _, _ => xwp P a (inBlock id Q) env H .mk .mk
  | .loop a, Q, env, H, _, _ => XL P a Q env H .mk .mk
  | .bad, _, _, _, _, _ => False

theorem xwp_wpa {P : Program} : ∀ (a : AC) (hok : acOK a = true) {Q : AEx → List Value → AH → Prop} {env : List Value} {H : AH} {t : Tag Q} {u : Tag a}, xwp P a Q env H t u → wpa P a Q env H
  | .skip, _, _, _, _, _, _, h => h
  | .ret, _, _, _, _, _, _, h => h
  | .exit _, _, _, _, _, _, _, h => h
  | .ops l, _, _, _, _, _, _, h => xops_aops l h
  | .reg r, hok, _, _, _, _, _, h => xreg_areg r hok (fun q hq => by cases hq) (fun q hq => by cases hq) h
  | .seq a b, hok, Q, _, _, _, _, h => by
    simp only [acOK, Bool.and_eq_true] at hok
    exact wpa_mono a (fun x e H' hx => by
      cases x with
      | normal => exact xwp_wpa b hok.2 hx
      | exit id => exact hx
      | ret => exact hx) (xwp_wpa a hok.1 h)
  | .cond c a b, hok, Q, env, H, _, _, h => by
    simp only [acOK, Bool.and_eq_true] at hok
    simp only [xwp, xcond] at h
    simp only [wpa]
    cases hc : c.ev env with
    | bool t => simp only [hc] at h ⊢; exact Branch.mono h (xwp_wpa a hok.1) (xwp_wpa b hok.2)
    | _ => simp only [hc] at h
  | .block id a, hok, _, _, _, _, _, h => xwp_wpa a hok h
  | .loop a, hok, _, _, _, _, _, h => h hok
  | .bad, _, _, _, _, _, _, h => h.elim

/-! ### Loops -/

/-- A loop's rule: the states at its heads are told by x (what the slots hold that count; j: the others), the invariant by x and the heap. -/
theorem XL.loop {P : Program} {a : AC} {Q : AEx → List Value → AH → Prop} {env : List Value} {H : AH} {t : Tag a} {u : Tag Q} {β : Type} (st : β → (Nat → Value) → List Value) (Inv : β → AH → Prop) (μ : β → Nat)
    (x0 : β) (j0 : Nat → Value) (he : env = st x0 j0) (hI : Inv x0 H)
    (round : ∀ x j H, Inv x H → xwp P a (andThen (fun env' H' => ∃ y, env' = st y (fun n => env'.getD n undef) ∧ Inv y H' ∧ μ y < μ x) Q) (st x j) H .mk .mk) : XL P a Q env H t u := by
  intro hok
  refine ⟨β, fun x env H => ∃ j, env = st x j ∧ Inv x H, μ, x0, ⟨j0, he, hI⟩, ?_⟩
  rintro x env H ⟨j, rfl, hI⟩
  refine wpa_mono a (fun e env' H' he => ?_) (xwp_wpa a hok (round x j H hI))
  cases e with
  | normal => obtain ⟨y, h1, h2, h3⟩ := he; exact ⟨y, ⟨_, h1, h2⟩, h3⟩
  | exit id => exact he
  | ret => exact he

theorem ACalls.of_x {P : Program} {f : FuncId} {fn : Func} {ac : AC} {args : List Value} {H : AH} {R : Value → AH → Prop} (hf : P.funcs[f]? = some fn) (hb : fn.body.isSome = true)
    (hc : comp P (fn.body.getD .skip) = ac) (hok : acOK ac = true) (h : xwp P ac (retK fn.results.toList R) (args ++ List.replicate (fn.ntmps - args.length) undef) H .mk .mk) : ACalls P f args H R :=
  ACalls.of_ac hf hb hc (xwp_wpa ac hok h)

end Go.Proofs.YtmknkpcdfkpobaaA
