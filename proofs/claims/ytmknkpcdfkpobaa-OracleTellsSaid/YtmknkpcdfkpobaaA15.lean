/- The rules by which a simp runs through compiled code: each is what the definition says. Printed by a program of this claim's author. -/
import Derived.Test.YtmknkpcdfkpobaaA14
set_option linter.unusedVariables false
namespace Go.Proofs.YtmknkpcdfkpobaaA
open Go.RowKit

theorem ev_t {env : List Value} (n : Nat) : RX.ev env (.t n) = env.getD n undef := rfl
theorem ev_c {env : List Value} (v : Value) : RX.ev env (.c v) = v := rfl
theorem putL_some (env : List Value) (d : Nat) (v : Value) : putL env (some d) v = env.set d v := rfl
theorem putL_none (env : List Value) (v : Value) : putL env none v = env := rfl
theorem xops_nil {P : Program} {env : List Value} {H : AH} {K : List Value → AH → Prop} {t : Tag K} {u : Tag ([] : List AOp)} : xops P [] env H K t u = K env H := rfl
theorem xops_cons {P : Program} {env : List Value} {H : AH} {K : List Value → AH → Prop} {t : Tag K} (d : Option Nat) (g : Option (Option Nat × Bool)) (op : ROp) (l : List AOp) {u : Tag (⟨d, g, op⟩ :: l : List AOp)} : xops P (⟨d, g, op⟩ :: l) env H K t u = xstep P env H ⟨d, g, op⟩ (fun env' H' => xops P l env' H' K .mk .mk) .mk := rfl
theorem xstep_none {P : Program} {env : List Value} {H : AH} {K : List Value → AH → Prop} {t : Tag K} (d : Option Nat) (op : ROp) : xstep P env H ⟨d, none, op⟩ K t = xrop P env op H (fun v H' => K (putL env d v) H') .mk := rfl
def xguard (P : Program) (env : List Value) (H : AH) (b : Option Value) (want : Bool) (d : Option Nat) (op : ROp) (K : List Value → AH → Prop) (_ : Tag K) : Prop :=
  match b with
  | some (.bool b) => XB (b == want) (xrop P env op H (fun v H' => K (putL env d v) H') .mk) (K (putL env d undef) H) .mk .mk
  | some (.chan _) => False
  | _ => K (putL env d undef) H
theorem xstep_some {P : Program} {env : List Value} {H : AH} {K : List Value → AH → Prop} {t : Tag K} (d : Option Nat) (g : Nat) (w : Bool) (op : ROp) : xstep P env H ⟨d, some (some g, w), op⟩ K t = xguard P env H (env[g]?) w d op K t := rfl
theorem xguard_bool {P : Program} {env : List Value} {H : AH} {K : List Value → AH → Prop} {t : Tag K} (b w : Bool) (d : Option Nat) (op : ROp) : xguard P env H (some (.bool b)) w d op K t = XB (b == w) (xrop P env op H (fun v H' => K (putL env d v) H') .mk) (K (putL env d undef) H) .mk .mk := rfl
theorem xguard_undef {P : Program} {env : List Value} {H : AH} {K : List Value → AH → Prop} {t : Tag K} (w : Bool) (d : Option Nat) (op : ROp) : xguard P env H (some undef) w d op K t = K (putL env d undef) H := rfl
theorem xr_move {P : Program} {env : List Value} {H : AH} {K : Value → AH → Prop} {t : Tag K} (x : RX) : xrop P env (.move x) H K t = K (x.ev env) H := rfl
theorem xr_raw {P : Program} {env : List Value} {H : AH} {K : Value → AH → Prop} {t : Tag K} (o : Op) : xrop P env (.raw o) H K t = XRaw P env o H K .mk := rfl
theorem xr_pick {P : Program} {env : List Value} {H : AH} {K : Value → AH → Prop} {t : Tag K} (c a b : RX) : xrop P env (.pick c a b) H K t = xpick (c.ev env) (a.ev env) (b.ev env) H K .mk := rfl
theorem xr_load1 {P : Program} {env : List Value} {H : AH} {K : Value → AH → Prop} {t : Tag K} (a : RX) : xrop P env (.load1 a) H K t = xload1 (a.ev env) H K .mk := rfl
theorem xr_loadN {P : Program} {env : List Value} {H : AH} {K : Value → AH → Prop} {t : Tag K} (n : Nat) (a : RX) : xrop P env (.loadN n a) H K t = xloadN n (a.ev env) H K .mk := rfl
theorem xr_store {P : Program} {env : List Value} {H : AH} {K : Value → AH → Prop} {t : Tag K} (n : Nat) (a x : RX) : xrop P env (.store n a x) H K t = xstore n (a.ev env) (x.ev env) H (K undef) .mk := rfl
theorem xr_addr {P : Program} {env : List Value} {H : AH} {K : Value → AH → Prop} {t : Tag K} (x : RX) (k : Nat) : xrop P env (.addr x k) H K t = XV (raddr (x.ev env) k) H K .mk := rfl
theorem xr_elemS {P : Program} {env : List Value} {H : AH} {K : Value → AH → Prop} {t : Tag K} (sz : Nat) (x i : RX) : xrop P env (.elemS sz x i) H K t = xelem (base (x.ev env)) (slen (x.ev env)) sz (i.ev env) H K .mk := rfl
theorem xr_elemA {P : Program} {env : List Value} {H : AH} {K : Value → AH → Prop} {t : Tag K} (len sz : Nat) (x i : RX) : xrop P env (.elemA len sz x i) H K t = xelem (baseA (x.ev env)) len sz (i.ev env) H K .mk := rfl
theorem xr_fld1 {P : Program} {env : List Value} {H : AH} {K : Value → AH → Prop} {t : Tag K} (x : RX) (off : Nat) : xrop P env (.fld1 x off) H K t = XV (rfld1 (x.ev env) off) H K .mk := rfl
theorem xr_fldN {P : Program} {env : List Value} {H : AH} {K : Value → AH → Prop} {t : Tag K} (x : RX) (off n : Nat) : xrop P env (.fldN x off n) H K t = XV (rfldN (x.ev env) off n) H K .mk := rfl
theorem xr_lenS {P : Program} {env : List Value} {H : AH} {K : Value → AH → Prop} {t : Tag K} (x : RX) : xrop P env (.lenS x) H K t = XV (rlenS (x.ev env)) H K .mk := rfl
theorem xr_lenSl {P : Program} {env : List Value} {H : AH} {K : Value → AH → Prop} {t : Tag K} (x : RX) : xrop P env (.lenSl x) H K t = XV (rlenSl (x.ev env)) H K .mk := rfl
theorem xr_extract {P : Program} {env : List Value} {H : AH} {K : Value → AH → Prop} {t : Tag K} (x : RX) (i : Nat) : xrop P env (.extract x i) H K t = XV (aextract (x.ev env) i) H K .mk := rfl
theorem xr_int {P : Program} {env : List Value} {H : AH} {K : Value → AH → Prop} {t : Tag K} (op : BinOp) (x y : RX) : xrop P env (.int op x y) H K t = XV (rint op (x.ev env) (y.ev env)) H K .mk := rfl
theorem xr_not {P : Program} {env : List Value} {H : AH} {K : Value → AH → Prop} {t : Tag K} (x : RX) : xrop P env (.not x) H K t = XV (xnot (x.ev env)) H K .mk := rfl
theorem xr_alloc {P : Program} {env : List Value} {H : AH} {K : Value → AH → Prop} {t : Tag K} (z : List Value) : xrop P env (.alloc z) H K t = xnew H z K .mk := rfl
theorem xr_box {P : Program} {env : List Value} {H : AH} {K : Value → AH → Prop} {t : Tag K} (x : RX) : xrop P env (.box x) H K t = XBox (cellsL (x.ev env)) H K .mk := rfl
theorem xr_iface {P : Program} {env : List Value} {H : AH} {K : Value → AH → Prop} {t : Tag K} (T : TypeId) (x : RX) : xrop P env (.iface T x) H K t = K (.iface T (x.ev env)) H := rfl
theorem xr_nilCheck {P : Program} {env : List Value} {H : AH} {K : Value → AH → Prop} {t : Tag K} (x : RX) : xrop P env (.nilCheck x) H K t = XS (nonNil (x.ev env) = true) (K (x.ev env) H) .mk := rfl
theorem xr_call {P : Program} {env : List Value} {H : AH} {K : Value → AH → Prop} {t : Tag K} (f : FuncId) (args : List RX) : xrop P env (.call f args) H K t = XC P f (args.map (RX.ev env)) H K .mk := rfl
theorem xr_neg {P : Program} {env : List Value} {H : AH} {K : Value → AH → Prop} {t : Tag K} (x : RX) : xrop P env (.neg x) H K t = XV (rneg (x.ev env)) H K .mk := rfl
theorem xr_quo {P : Program} {env : List Value} {H : AH} {K : Value → AH → Prop} {t : Tag K} (rem : Bool) (x y : RX) : xrop P env (.quo rem x y) H K t = xquo rem (x.ev env) (y.ev env) H K .mk := rfl
theorem xr_app {P : Program} {env : List Value} {H : AH} {K : Value → AH → Prop} {t : Tag K} (z : List Value) (bytes : Nat) (s x : RX) : xrop P env (.app z bytes s x) H K t = XApp z bytes (s.ev env) (x.ev env) H K .mk := rfl
theorem xr_appz {P : Program} {env : List Value} {H : AH} {K : Value → AH → Prop} {t : Tag K} (z : List Value) (bytes : Nat) (s x : RX) : xrop P env (.appz z bytes s x) H K t = XAppz z bytes (s.ev env) (x.ev env) H K .mk := rfl
theorem xr_ext {P : Program} {env : List Value} {H : AH} {K : Value → AH → Prop} {t : Tag K} (f : FuncId) (args : List RX) : xrop P env (.ext f args) H K t = XE P f (args.map (RX.ev env)) H K .mk := rfl
theorem xr_cap {P : Program} {env : List Value} {H : AH} {K : Value → AH → Prop} {t : Tag K} (x : RX) : xrop P env (.cap x) H K t = XV (rcap (x.ev env)) H K .mk := rfl
theorem rcap_s (b o n c : Nat) : rcap (.slice (some ⟨b, o, some 0⟩) n c) = some (.int .i64 c) := rfl
theorem rcap_n : rcap (.slice none 0 0) = some (.int .i64 0) := rfl
theorem xr_bsl {P : Program} {env : List Value} {H : AH} {K : Value → AH → Prop} {t : Tag K} (z : List Value) (sz len : Nat) (parts : List (Nat × RX)) : xrop P env (.bsl z sz len parts) H K t = xbsl z sz len (parts.map fun p => (p.1, p.2.ev env)) H K .mk := rfl
theorem xr_build {P : Program} {env : List Value} {H : AH} {K : Value → AH → Prop} {t : Tag K} (z : List Value) (places : List (Nat × Nat)) (parts : List (Nat × RX)) : xrop P env (.build z places parts) H K t = XV (rbuild z places (parts.map fun p => (p.1, p.2.ev env))) H K .mk := rfl
theorem xr_sl {P : Program} {env : List Value} {H : AH} {K : Value → AH → Prop} {t : Tag K} (sz : Nat) (x : RX) (lo hi mx : Option RX) : xrop P env (.sl sz x lo hi mx) H K t = xsl sz (x.ev env) (lo.map (RX.ev env)) (hi.map (RX.ev env)) (mx.map (RX.ev env)) H K .mk := rfl
theorem xr_mks {P : Program} {env : List Value} {H : AH} {K : Value → AH → Prop} {t : Tag K} (z : List Value) (bytes : Nat) (l c : RX) : xrop P env (.mks z bytes l c) H K t = xmks z bytes (l.ev env) (c.ev env) H K .mk := rfl
theorem xw_skip {P : Program} {env : List Value} {H : AH} {Q : AEx → List Value → AH → Prop} {t : Tag Q}  {u : Tag (AC.skip )} : xwp P (.skip ) Q env H t u = Q .normal env H := rfl
theorem xw_ret {P : Program} {env : List Value} {H : AH} {Q : AEx → List Value → AH → Prop} {t : Tag Q}  {u : Tag (AC.ret )} : xwp P (.ret ) Q env H t u = Q .ret env H := rfl
theorem xw_exit {P : Program} {env : List Value} {H : AH} {Q : AEx → List Value → AH → Prop} {t : Tag Q} (id : Nat) {u : Tag (AC.exit id)} : xwp P (.exit id) Q env H t u = Q (.exit id) env H := rfl
theorem xw_ops {P : Program} {env : List Value} {H : AH} {Q : AEx → List Value → AH → Prop} {t : Tag Q} (l : List AOp) {u : Tag (AC.ops l)} : xwp P (.ops l) Q env H t u = xops P l env H (Q .normal) .mk .mk := rfl
theorem xw_seq {P : Program} {env : List Value} {H : AH} {Q : AEx → List Value → AH → Prop} {t : Tag Q} (a b : AC) {u : Tag (AC.seq a b)} : xwp P (.seq a b) Q env H t u = xwp P a (andThen (fun env' H' => xwp P b Q env' H' .mk .mk) Q) env H .mk .mk := rfl
theorem xw_cond {P : Program} {env : List Value} {H : AH} {Q : AEx → List Value → AH → Prop} {t : Tag Q} (c : RX) (a b : AC) {u : Tag (AC.cond c a b)} : xwp P (.cond c a b) Q env H t u = xcond (c.ev env) (xwp P a Q env H .mk .mk) (xwp P b Q env H .mk .mk) .mk .mk := rfl
theorem xw_block {P : Program} {env : List Value} {H : AH} {Q : AEx → List Value → AH → Prop} {t : Tag Q} (id : Nat) (a : AC) {u : Tag (AC.block id a)} : xwp P (.block id a) Q env H t u = xwp P a (inBlock id Q) env H .mk .mk := rfl
theorem xw_loop {P : Program} {env : List Value} {H : AH} {Q : AEx → List Value → AH → Prop} {t : Tag Q} (a : AC) {u : Tag (AC.loop a)} : xwp P (.loop a) Q env H t u = XL P a Q env H .mk .mk := rfl
theorem aT_normal (K : List Value → AH → Prop) (Q : AEx → List Value → AH → Prop) (env : List Value) (H : AH) : andThen K Q .normal env H = K env H := rfl
theorem aT_exit (K : List Value → AH → Prop) (Q : AEx → List Value → AH → Prop) (id : Nat) (env : List Value) (H : AH) : andThen K Q (.exit id) env H = Q (.exit id) env H := rfl
theorem aT_ret (K : List Value → AH → Prop) (Q : AEx → List Value → AH → Prop) (env : List Value) (H : AH) : andThen K Q .ret env H = Q .ret env H := rfl
theorem iB_normal (i : Nat) (Q : AEx → List Value → AH → Prop) (env : List Value) (H : AH) : inBlock i Q .normal env H = Q .normal env H := rfl
theorem iB_ret (i : Nat) (Q : AEx → List Value → AH → Prop) (env : List Value) (H : AH) : inBlock i Q .ret env H = Q .ret env H := rfl
theorem iB_exit (i : Nat) (Q : AEx → List Value → AH → Prop) (env : List Value) (H : AH) : inBlock i Q (.exit i) env H = Q .normal env H := if_pos rfl
theorem iB_exit_ne (i k : Nat) (Q : AEx → List Value → AH → Prop) (env : List Value) (H : AH) (h : (k == i) = false) : inBlock i Q (.exit k) env H = Q (.exit k) env H := if_neg (by simpa using h)
theorem rK_ret (rs : List ResultVar) (R : Value → AH → Prop) (env : List Value) (H : AH) : retK rs R .ret env H = okv (ares rs env) H R := rfl
theorem rK_normal (rs : List ResultVar) (R : Value → AH → Prop) (env : List Value) (H : AH) : retK rs R .normal env H = okv (ares rs env) H R := rfl
theorem xpick_b {H : AH} {K : Value → AH → Prop} {t : Tag K} (b : Bool) (x y : Value) : xpick (.bool b) x y H K t = XB b (K x H) (K y H) .mk .mk := rfl
theorem xload1_p {H : AH} {K : Value → AH → Prop} {t : Tag K} (b o : Nat) : xload1 (.pointer (some ⟨b, o, none⟩)) H K t = XV (rload1 H b o) H K .mk := rfl
theorem xloadN_p {H : AH} {K : Value → AH → Prop} {t : Tag K} (n b o : Nat) : xloadN n (.pointer (some ⟨b, o, none⟩)) H K t = XV (rloadN H n b o) H K .mk := rfl
theorem xelem_p {H : AH} {K : Value → AH → Prop} {t : Tag K} (b o len sz : Nat) (sp : Option Nat) (k : IntKind) (i : Int) : xelem (.pointer (some ⟨b, o, sp⟩)) len sz (.int k i) H K t = XS (0 ≤ i ∧ i < len) (K (.pointer (some ⟨b, o + i.toNat * sz, none⟩)) H) .mk := rfl
theorem xquo_q {H : AH} {K : Value → AH → Prop} {t : Tag K} (k k' : IntKind) (a b : Int) : xquo false (.int k a) (.int k' b) H K t = XS (k = k' ∧ b ≠ 0) (K (.int k (k.wrap (a.tdiv b))) H) .mk := rfl
theorem xquo_r {H : AH} {K : Value → AH → Prop} {t : Tag K} (k k' : IntKind) (a b : Int) : xquo true (.int k a) (.int k' b) H K t = XS (k = k' ∧ b ≠ 0) (K (.int k (a.tmod b)) H) .mk := rfl
theorem xnew_eq {H : AH} {K : Value → AH → Prop} {t : Tag K} (cs : List Value) : xnew H cs K t = XS (cs.all okCell = true) (K (.pointer (some ⟨H.next, 0, none⟩)) (H.alloc (.cells cs true))) .mk := rfl
theorem xmks_eq {H : AH} {K : Value → AH → Prop} {t : Tag K} (z : List Value) (bytes : Nat) (k k' : IntKind) (l c : Int) : xmks z bytes (.int k l) (.int k' c) H K t = XS (0 ≤ l ∧ l ≤ c ∧ c ≤ 9223372036854775807 ∧ bytes * c ≤ 281474976710656) (K (.slice (some ⟨H.next, 0, some 0⟩) l.toNat c.toNat) (H.alloc (.cells (zrow z c.toNat) true))) .mk := rfl
theorem xcond_b {A C : Prop} {t : Tag A} {u : Tag C} (b : Bool) : xcond (.bool b) A C t u = XB b A C .mk .mk := rfl
def bslK (o : Option (List Value)) (len : Nat) (H : AH) (K : Value → AH → Prop) (_ : Tag K) : Prop :=
  match o with
  | some l => XBsl l len H K .mk
  | none => False
theorem xbsl_eq {H : AH} {K : Value → AH → Prop} {t : Tag K} (z : List Value) (sz len : Nat) (parts : List (Nat × Value)) : xbsl z sz len parts H K t = bslK (afill (fun i => some (i * sz, sz)) (zrow z len) parts) len H K t := rfl
theorem bslK_some {H : AH} {K : Value → AH → Prop} {t : Tag K} (l : List Value) (len : Nat) : bslK (some l) len H K t = XBsl l len H K .mk := rfl
def slK (k : Option Nat) (b o sz cap : Nat) (l h m : Option Int) (c : Prop) (H : AH) (K : Value → AH → Prop) (_ : Tag K) : Prop :=
  match l, h, m with
  | some l, some h, some m => XS (0 ≤ l ∧ l ≤ h ∧ h ≤ m ∧ m ≤ cap ∧ c) (K (.slice (some ⟨b, o + l.toNat * sz, k⟩) (h.toNat - l.toNat) (m.toNat - l.toNat)) H) .mk
  | _, _, _ => False
theorem xsl_ex {H : AH} {K : Value → AH → Prop} {t : Tag K} (sz b o len cap : Nat) (lo hi mx : Option Value) : xsl sz (.slice (some ⟨b, o, some 0⟩) len cap) lo hi mx H K t = slK (some 0) b o sz cap (rbnd lo 0) (rbnd hi len) (rbnd mx cap) (mx.isSome = true → hi.isSome = true) H K t := rfl
def slFK (sz : Nat) (cs : List Value) (len : Nat) (l h : Option Int) (H : AH) (K : Value → AH → Prop) (_ : Tag K) : Prop :=
  match l, h with
  | some l, some h => XS (0 ≤ l ∧ l ≤ h ∧ h ≤ len) (K (FS ((cs.drop (l.toNat * sz)).take ((h.toNat - l.toNat) * sz)) (h.toNat - l.toNat)) H) .mk
  | _, _ => False
theorem xsl_f {H : AH} {K : Value → AH → Prop} {t : Tag K} (sz : Nat) (cs : List Value) (len : Nat) (lo hi : Option Value) : xsl sz (FS cs len) lo hi none H K t = slFK sz cs len (rbnd lo 0) (rbnd hi len) H K .mk := by
  show (match rbnd lo 0, rbnd hi (len : Int), (none : Option Value) with | some l, some h, none => _ | _, _, _ => False) = _
  cases h1 : rbnd lo 0 <;> cases h2 : rbnd hi (len : Int) <;> rfl
theorem slFK_some {H : AH} {K : Value → AH → Prop} {t : Tag K} (sz : Nat) (cs : List Value) (len : Nat) (l h : Int) : slFK sz cs len (some l) (some h) H K t = XS (0 ≤ l ∧ l ≤ h ∧ h ≤ len) (K (FS ((cs.drop (l.toNat * sz)).take ((h.toNat - l.toNat) * sz)) (h.toNat - l.toNat)) H) .mk := rfl
theorem xload1_f {H : AH} {K : Value → AH → Prop} {t : Tag K} (cs : List Value) : xload1 (FP cs) H K t = XV (cs[0]?) H K .mk := rfl
theorem xloadN_f {H : AH} {K : Value → AH → Prop} {t : Tag K} (n : Nat) (cs : List Value) : xloadN n (FP cs) H K t = XV (if n ≤ cs.length then some (.agg (cs.take n).toArray) else none) H K .mk := rfl
theorem xelem_f {H : AH} {K : Value → AH → Prop} {t : Tag K} (cs : List Value) (len sz : Nat) (k : IntKind) (i : Int) : xelem (FP cs) len sz (.int k i) H K t = XS (0 ≤ i ∧ i < len) (K (FP (cs.drop (i.toNat * sz))) H) .mk := rfl
theorem base_f (cs : List Value) (n : Nat) : base (FS cs n) = FP cs := rfl
theorem slen_f (cs : List Value) (n : Nat) : slen (FS cs n) = n := rfl
theorem baseA_f (cs : List Value) : baseA (FP cs) = FP cs := rfl
theorem rlenSl_f (cs : List Value) (n : Nat) : rlenSl (FS cs n) = some (.int .i64 n) := rfl
theorem raddr_f (cs : List Value) (k : Nat) : raddr (FP cs) k = some (FP (cs.drop k)) := rfl
theorem xld1_f (cs : List Value) (v : Value) (H : AH) : xld1 (FP cs) v H = (cs[0]? = some v) := rfl
theorem xldN_f (n : Nat) (cs : List Value) (v : Value) (H : AH) : xldN n (FP cs) v H = (n ≤ cs.length ∧ v = .agg (cs.take n).toArray) := rfl
theorem cellsL_fs (cs : List Value) (n : Nat) : cellsL (FS cs n) = [FS cs n] := rfl
theorem cellsL_fp (cs : List Value) : cellsL (FP cs) = [FP cs] := rfl
theorem okCell_fs (cs : List Value) (n : Nat) : okCell (FS cs n) = true := rfl
theorem okCell_fp (cs : List Value) : okCell (FP cs) = true := rfl
theorem nonNil_fp (cs : List Value) : nonNil (FP cs) = true := rfl
theorem slK_some {H : AH} {K : Value → AH → Prop} {t : Tag K} (k : Option Nat) (b o sz cap : Nat) (l h m : Int) (c : Prop) : slK k b o sz cap (some l) (some h) (some m) c H K t = XS (0 ≤ l ∧ l ≤ h ∧ h ≤ m ∧ m ≤ cap ∧ c) (K (.slice (some ⟨b, o + l.toNat * sz, k⟩) (h.toNat - l.toNat) (m.toNat - l.toNat)) H) .mk := rfl
def slNK (l h : Option Int) (H : AH) (K : Value → AH → Prop) (_ : Tag K) : Prop :=
  match l, h with
  | some l, some h => XS (l = 0 ∧ h = 0) (K (.slice none 0 0) H) .mk
  | _, _ => False
theorem xsl_nil {H : AH} {K : Value → AH → Prop} {t : Tag K} (sz : Nat) (lo hi : Option Value) : xsl sz (.slice none 0 0) lo hi none H K t = slNK (rbnd lo 0) (rbnd hi 0) H K .mk := by
  cases h1 : rbnd lo 0 <;> cases h2 : rbnd hi 0 <;> simp only [xsl, slNK, h1, h2]
theorem slNK_some {H : AH} {K : Value → AH → Prop} {t : Tag K} (l h : Int) : slNK (some l) (some h) H K t = XS (l = 0 ∧ h = 0) (K (.slice none 0 0) H) .mk := rfl
theorem rint_add (k : IntKind) (a b : Int) : rint .add (.int k a) (.int k b) = some (.int k (k.wrap (a + b))) := by simp [rint]
theorem rint_sub (k : IntKind) (a b : Int) : rint .sub (.int k a) (.int k b) = some (.int k (k.wrap (a - b))) := by simp [rint]
theorem rint_mul (k : IntKind) (a b : Int) : rint .mul (.int k a) (.int k b) = some (.int k (k.wrap (a * b))) := by simp [rint]
theorem rint_eql (k : IntKind) (a b : Int) : rint .eql (.int k a) (.int k b) = some (.bool (decide (a = b))) := by simp [rint]
theorem rint_neq (k : IntKind) (a b : Int) : rint .neq (.int k a) (.int k b) = some (.bool (!decide (a = b))) := by simp [rint]
theorem rint_lss (k : IntKind) (a b : Int) : rint .lss (.int k a) (.int k b) = some (.bool (decide (a < b))) := by simp [rint]
theorem rint_leq (k : IntKind) (a b : Int) : rint .leq (.int k a) (.int k b) = some (.bool (decide (a ≤ b))) := by simp [rint]
theorem rint_gtr (k : IntKind) (a b : Int) : rint .gtr (.int k a) (.int k b) = some (.bool (decide (b < a))) := by simp [rint]
theorem rint_geq (k : IntKind) (a b : Int) : rint .geq (.int k a) (.int k b) = some (.bool (decide (b ≤ a))) := by simp [rint]
theorem raddr_p (b o k : Nat) : raddr (.pointer (some ⟨b, o, none⟩)) k = some (.pointer (some ⟨b, o + k, none⟩)) := rfl
theorem base_s (a : Addr) (n c : Nat) : base (.slice (some a) n c) = Value.pointer (some a) := rfl
theorem slen_s (a : Option Addr) (n c : Nat) : slen (.slice a n c) = n := rfl
theorem baseA_p (b o : Nat) : baseA (.pointer (some ⟨b, o, none⟩)) = Value.pointer (some ⟨b, o, none⟩) := rfl
theorem rfld1_a (l : List Value) (o : Nat) : rfld1 (.agg l.toArray) o = l[o]? := rfl
theorem rlenS_s (s : ByteArray) : rlenS (.string s) = some (.int .i64 s.size) := rfl
theorem rlenSl_s (a : Option Addr) (n c : Nat) : rlenSl (.slice a n c) = some (.int .i64 n) := rfl
theorem aextract_t (l : List Value) (i : Nat) : aextract (.tuple l.toArray) i = l[i]? := rfl
theorem xnot_b (b : Bool) : xnot (.bool b) = some (.bool (!b)) := rfl
theorem rneg_i (k : IntKind) (n : Int) : rneg (.int k n) = some (.int k (k.wrap (0 - n))) := rfl
theorem rbnd_n (d : Int) : rbnd none d = some d := rfl
theorem rbnd_s (k : IntKind) (i d : Int) : rbnd (some (.int k i)) d = some i := rfl
theorem cellsL_int (k : IntKind) (n : Int) : cellsL (.int k n) = [.int k n] := rfl
theorem cellsL_bool (b : Bool) : cellsL (.bool b) = [.bool b] := rfl
theorem cellsL_sl (a : Option Addr) (n c : Nat) : cellsL (.slice a n c) = [.slice a n c] := rfl
theorem cellsL_ptr (a : Option Addr) : cellsL (.pointer a) = [.pointer a] := rfl
theorem cellsL_agg (l : List Value) : cellsL (.agg l.toArray) = l := rfl
theorem cellsL_str (s : ByteArray) : cellsL (.string s) = [.string s] := rfl
theorem cellsL_if (T : TypeId) (v : Value) : cellsL (.iface T v) = [.iface T v] := rfl
theorem cellsL_nif  : cellsL .nilIface = [.nilIface] := rfl
theorem rbuild_eq (z : List Value) (pl : List (Nat × Nat)) (parts : List (Nat × Value)) : rbuild z pl parts = (afill (pl[·]?) z parts).map fun l => .agg l.toArray := rfl
theorem resTmp_t (env : List Value) (n : Nat) : resTmp env (.tmp n) = some (env.getD n undef) := rfl

theorem xw_reg {P : Program} {env : List Value} {H : AH} {Q : AEx → List Value → AH → Prop} {t : Tag Q} (r : RT) {u : Tag (AC.reg r)} : xwp P (.reg r) Q env H t u = xreg P r [] env H (Q .normal) .mk .mk .mk := rfl
theorem xrg_nil {P : Program} {env : List Value} {H : AH} {K : List Value → AH → Prop} {t : Tag K} {pend : Pend} {u : Tag RT.nil} {v : Tag pend} : xreg P .nil pend env H K t u v = K env H := rfl
theorem xrg_pu {P : Program} {env : List Value} {H : AH} {K : List Value → AH → Prop} {t : Tag K} {pend : Pend} (a : AOp) (r : RT) {u : Tag (RT.pu a r)} {v : Tag pend} : xreg P (.pu a r) pend env H K t u v = xstep P env H a (fun env' H' => xreg P r pend env' H' K .mk .mk .mk) .mk := rfl
theorem xrg_ld {P : Program} {env : List Value} {H : AH} {K : List Value → AH → Prop} {t : Tag K} {pend : Pend} (i : Nat) (a : AOp) (r : RT) {u : Tag (RT.ld i a r)} {v : Tag pend} : xreg P (.ld i a r) pend env H K t u v = xstep P env H a (fun env' H' => xreg P r (pend ++ [(i, fun H2 => ldOK P env a env' H2)]) env' H' K .mk .mk .mk) .mk := rfl
theorem xrg_eff {P : Program} {env : List Value} {H : AH} {K : List Value → AH → Prop} {t : Tag K} {pend : Pend} (a : AOp) (drop : List Nat) (r : RT) {u : Tag (RT.eff a drop r)} {v : Tag pend} : xreg P (.eff a drop r) pend env H K t u v = xstep P env H a (fun env' H' => XPend (H' ≠ H → ∀ p ∈ pend, drop.contains p.1 = false → p.2 H') (xreg P r (pend.filter fun p => !drop.contains p.1) env' H' K .mk .mk .mk) .mk) .mk := rfl
theorem xrg_both {P : Program} {env : List Value} {H : AH} {K : List Value → AH → Prop} {t : Tag K} {pend : Pend} (r s : RT) {u : Tag (RT.both r s)} {v : Tag pend} : xreg P (.both r s) pend env H K t u v = (xreg P r pend env H K .mk .mk .mk ∧ xreg P s pend env H K .mk .mk .mk) := rfl
theorem ldOK_load1 {P : Program} {env env' : List Value} {H : AH} (d : Nat) (x : RX) : ldOK P env ⟨some d, none, .load1 x⟩ env' H = xld1 (x.ev env) (env'.getD d undef) H := rfl
theorem ldOK_loadN {P : Program} {env env' : List Value} {H : AH} (d n : Nat) (x : RX) : ldOK P env ⟨some d, none, .loadN n x⟩ env' H = xldN n (x.ev env) (env'.getD d undef) H := rfl
theorem xld1_p (b o : Nat) (v : Value) (H : AH) : xld1 (.pointer (some ⟨b, o, none⟩)) v H = (rload1 H b o = some v) := rfl
theorem xldN_p (n b o : Nat) (v : Value) (H : AH) : xldN n (.pointer (some ⟨b, o, none⟩)) v H = (rloadN H n b o = some v) := rfl

theorem xr_nilv {P : Program} {env : List Value} {H : AH} {K : Value → AH → Prop} {t : Tag K} (k : Nat) (ne : Bool) (x : RX) : xrop P env (.nilv k ne x) H K t = XV (rnil k ne (x.ev env)) H K .mk := rfl
theorem xr_cvt {P : Program} {env : List Value} {H : AH} {K : Value → AH → Prop} {t : Tag K} (k : IntKind) (x : RX) : xrop P env (.cvt k x) H K t = XV (rcvt k (x.ev env)) H K .mk := rfl
theorem xr_cvs {P : Program} {env : List Value} {H : AH} {K : Value → AH → Prop} {t : Tag K} (x : RX) : xrop P env (.cvs x) H K t = XV (rcvs (x.ev env)) H K .mk := rfl
theorem xr_bit {P : Program} {env : List Value} {H : AH} {K : Value → AH → Prop} {t : Tag K} (op : BinOp) (x y : RX) : xrop P env (.bit op x y) H K t = XV (rbit op (x.ev env) (y.ev env)) H K .mk := rfl
theorem xr_copy {P : Program} {env : List Value} {H : AH} {K : Value → AH → Prop} {t : Tag K} (sz : Nat) (d x : RX) : xrop P env (.copy sz d x) H K t = XCopy sz (d.ev env) (x.ev env) H K .mk := rfl
theorem xr_clear {P : Program} {env : List Value} {H : AH} {K : Value → AH → Prop} {t : Tag K} (z : List Value) (x : RX) : xrop P env (.clear z x) H K t = XClear z (x.ev env) H K .mk := rfl
theorem xr_bb {P : Program} {env : List Value} {H : AH} {K : Value → AH → Prop} {t : Tag K} (ne : Bool) (x y : RX) : xrop P env (.bb ne x y) H K t = XV (rbb ne (x.ev env) (y.ev env)) H K .mk := rfl
theorem xr_eqA {P : Program} {env : List Value} {H : AH} {K : Value → AH → Prop} {t : Tag K} (ne : Bool) (ks : List LK) (x y : RX) : xrop P env (.eqA ne ks x y) H K t = XV (reqA ne ks (x.ev env) (y.ev env)) H K .mk := rfl
theorem xr_mm {P : Program} {env : List Value} {H : AH} {K : Value → AH → Prop} {t : Tag K} (mx : Bool) (x y : RX) : xrop P env (.mm mx x y) H K t = XV (amm2 mx (x.ev env) (y.ev env)) H K .mk := rfl
theorem rbb_e (a b : Bool) : rbb false (.bool a) (.bool b) = some (.bool (a == b)) := rfl
theorem rbb_n (a b : Bool) : rbb true (.bool a) (.bool b) = some (.bool (!(a == b))) := rfl
theorem amm2_min_i (k k' : IntKind) (a b : Int) : amm2 false (.int k a) (.int k' b) = some (.int k (min a b)) := by
  unfold amm2; dsimp only; congr 2; simp only [Bool.false_eq_true, if_false]; omega
theorem amm2_max_i (k k' : IntKind) (a b : Int) : amm2 true (.int k a) (.int k' b) = some (.int k (max a b)) := by
  unfold amm2; dsimp only; congr 2; simp only [if_true]; omega
theorem reqA_e (ks : List LK) (a b : List Value) (h : (okL ks a && okL ks b) = true) : reqA false ks (.agg a.toArray) (.agg b.toArray) = some (.bool (eqC a b)) := by
  show (if (okL ks a && okL ks b) = true then _ else _) = _
  rw [if_pos h]; rfl
theorem reqA_n (ks : List LK) (a b : List Value) (h : (okL ks a && okL ks b) = true) : reqA true ks (.agg a.toArray) (.agg b.toArray) = some (.bool (!eqC a b)) := by
  show (if (okL ks a && okL ks b) = true then _ else _) = _
  rw [if_pos h]; rfl
theorem okL_nil : okL [] [] = true := rfl
theorem okL_i (k : IntKind) (ks : List LK) (n : Int) (l : List Value) : okL (.int k :: ks) (.int k n :: l) = okL ks l := by simp [okL, LK.ok]
theorem okL_b (ks : List LK) (b : Bool) (l : List Value) : okL (.bool :: ks) (.bool b :: l) = okL ks l := by simp [okL, LK.ok]
theorem okL_s (ks : List LK) (b : ByteArray) (l : List Value) : okL (.str :: ks) (.string b :: l) = okL ks l := by simp [okL, LK.ok]
theorem xr_slA {P : Program} {env : List Value} {H : AH} {K : Value → AH → Prop} {t : Tag K} (n sz : Nat) (x : RX) (lo hi : Option RX) : xrop P env (.slA n sz x lo hi) H K t = xslA n sz (x.ev env) (lo.map (RX.ev env)) (hi.map (RX.ev env)) H K .mk := rfl
theorem xr_callv {P : Program} {env : List Value} {H : AH} {K : Value → AH → Prop} {t : Tag K} (f : RX) (args : List RX) : xrop P env (.callv f args) H K t = XCv P (f.ev env) (args.map (RX.ev env)) H K .mk := rfl
theorem xr_inv {P : Program} {env : List Value} {H : AH} {K : Value → AH → Prop} {t : Tag K} (f : RX) (name : String) (args : List RX) : xrop P env (.inv f name args) H K t = XInv P (f.ev env) name (args.map (RX.ev env)) H K .mk := rfl
theorem xr_tass {P : Program} {env : List Value} {H : AH} {K : Value → AH → Prop} {t : Tag K} (x : RX) (xT T : TypeId) (ok : Bool) : xrop P env (.tass x xT T ok) H K t = XV (aassert P (x.ev env) xT T ok) H K .mk := rfl
theorem xr_mkf {P : Program} {env : List Value} {H : AH} {K : Value → AH → Prop} {t : Tag K} (fn : Fn) (a b : List RX) : xrop P env (.mkf fn a b) H K t = XS (fnOk fn = true) (K (.func fn (a.map (RX.ev env)).toArray (b.map (RX.ev env)).toArray) H) .mk := rfl
theorem fnOk_func (f : FuncId) : fnOk (.func f) = true := rfl
def slAPK (b o n sz : Nat) (l h : Option Int) (H : AH) (K : Value → AH → Prop) (_ : Tag K) : Prop :=
  match l, h with
  | some l, some h => XS (0 ≤ l ∧ l ≤ h ∧ h ≤ n) (K (.slice (some ⟨b, o + l.toNat * sz, some 0⟩) (h.toNat - l.toNat) (n - l.toNat)) H) .mk
  | _, _ => False
def slAFK (cs : List Value) (n sz : Nat) (l h : Option Int) (H : AH) (K : Value → AH → Prop) (_ : Tag K) : Prop :=
  match l, h with
  | some l, some h => XS (0 ≤ l ∧ l ≤ h ∧ h ≤ n) (K (FS ((cs.drop (l.toNat * sz)).take ((h.toNat - l.toNat) * sz)) (h.toNat - l.toNat)) H) .mk
  | _, _ => False
theorem xslA_p {n sz b o : Nat} {lo hi : Option Value} {H : AH} {K : Value → AH → Prop} {t : Tag K} : xslA n sz (.pointer (some ⟨b, o, none⟩)) lo hi H K t = slAPK b o n sz (rbnd lo 0) (rbnd hi n) H K .mk := by
  show (match (Value.pointer (some ⟨b, o, none⟩)), rbnd lo 0, rbnd hi (n : Int) with | .pointer (some ⟨b, o, none⟩), some l, some h => _ | .func (.method _) cs _, some l, some h => _ | _, _, _ => False) = _
  cases h1 : rbnd lo 0 <;> cases h2 : rbnd hi (n : Int) <;> rfl
theorem xslA_f {n sz : Nat} {cs : List Value} {lo hi : Option Value} {H : AH} {K : Value → AH → Prop} {t : Tag K} : xslA n sz (FP cs) lo hi H K t = slAFK cs n sz (rbnd lo 0) (rbnd hi n) H K .mk := by
  show (match FP cs, rbnd lo 0, rbnd hi (n : Int) with | .pointer (some ⟨b, o, none⟩), some l, some h => _ | .func (.method _) cs _, some l, some h => _ | _, _, _ => False) = _
  cases h1 : rbnd lo 0 <;> cases h2 : rbnd hi (n : Int) <;> rfl
theorem slAPK_some {b o n sz : Nat} {l h : Int} {H : AH} {K : Value → AH → Prop} {t : Tag K} : slAPK b o n sz (some l) (some h) H K t = XS (0 ≤ l ∧ l ≤ h ∧ h ≤ n) (K (.slice (some ⟨b, o + l.toNat * sz, some 0⟩) (h.toNat - l.toNat) (n - l.toNat)) H) .mk := rfl
theorem slAFK_some {cs : List Value} {n sz : Nat} {l h : Int} {H : AH} {K : Value → AH → Prop} {t : Tag K} : slAFK cs n sz (some l) (some h) H K t = XS (0 ≤ l ∧ l ≤ h ∧ h ≤ n) (K (FS ((cs.drop (l.toNat * sz)).take ((h.toNat - l.toNat) * sz)) (h.toNat - l.toNat)) H) .mk := rfl
theorem rnil_sn (a : Option Addr) (n c : Nat) : rnil 0 false (.slice a n c) = some (.bool a.isNone) := rfl
theorem rnil_ss (a : Option Addr) (n c : Nat) : rnil 0 true (.slice a n c) = some (.bool a.isSome) := rfl
theorem rnil_pn (a : Option Addr) : rnil 1 false (.pointer a) = some (.bool a.isNone) := rfl
theorem rnil_ps (a : Option Addr) : rnil 1 true (.pointer a) = some (.bool a.isSome) := rfl
theorem rnil_ie (ne : Bool) (T : TypeId) (v : Value) : rnil 2 ne (.iface T v) = some (.bool ne) := rfl
theorem rnil_in (ne : Bool) : rnil 2 ne .nilIface = some (.bool (!ne)) := rfl
theorem rcvt_i (k k' : IntKind) (n : Int) : rcvt k (.int k' n) = some (.int k (k.wrap n)) := rfl
theorem rcvs_s (s : ByteArray) : rcvs (.string s) = some (.string s) := rfl
theorem rbit_shr (k k' : IntKind) (a b : Int) : rbit .shr (.int k a) (.int k' b) = if 0 ≤ b then some (.int k (a.fdiv (2 ^ (min b.toNat k.bits)))) else none := rfl
theorem rbit_shl (k k' : IntKind) (a b : Int) : rbit .shl (.int k a) (.int k' b) = if 0 ≤ b then some (.int k (k.wrap (a * 2 ^ (min b.toNat k.bits)))) else none := rfl
theorem zrow_zero (z : List Value) : zrow z 0 = [] := rfl
theorem zrow_succ (z : List Value) (n : Nat) : zrow z (n + 1) = z ++ zrow z n := by simp [zrow, List.replicate_succ]

end Go.Proofs.YtmknkpcdfkpobaaA
