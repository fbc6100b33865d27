/- Copies, appends in place, and the like, on a block of one's own; slices.overlaps. -/
import Derived.Test.YtmknkpcdfkpobaaA16
import Derived.Lib.Overlaps
set_option linter.unusedVariables false
set_option linter.unusedSimpArgs false
namespace Go.Proofs.YtmknkpcdfkpobaaA
open Go.RowKit

theorem AH.set_self {H : AH} {b : Nat} {o : AObj} (h : H.blk b = some o) : H.set b o = H := by
  obtain ⟨blk, next⟩ := H
  unfold AH.set
  congr 1
  funext x
  by_cases e : x = b
  · subst e; rw [upd_same]; exact h.symm
  · rw [upd_ne _ _ e]

theorem AH.set_set (H : AH) (b : Nat) (o o' : AObj) : (H.set b o).set b o' = H.set b o' := by
  obtain ⟨blk, next⟩ := H
  unfold AH.set
  congr 1
  funext x
  show upd (upd blk b (some o)) b (some o') x = upd blk b (some o') x
  by_cases e : x = b
  · subst e; rw [upd_same, upd_same]
  · rw [upd_ne _ _ e, upd_ne _ _ e, upd_ne _ _ e]

theorem AH.blk_set (H : AH) (b : Nat) (o : AObj) : (H.set b o).blk b = some o := upd_same _ _ _
theorem AH.blk_set_ne (H : AH) {b b' : Nat} (o : AObj) (h : b' ≠ b) : (H.set b o).blk b' = H.blk b' := upd_ne _ _ h
theorem AH.blk_alloc (H : AH) (o : AObj) : (H.alloc o).blk H.next = some o := upd_same _ _ _
theorem AH.blk_alloc_ne (H : AH) {b : Nat} (o : AObj) (h : b ≠ H.next) : (H.alloc o).blk b = H.blk b := upd_ne _ _ h

theorem splice_nil (cs : List Value) (o : Nat) : splice cs o [] = cs := by simp [splice]

theorem splice_mid (A B C V : List Value) (h : V.length = B.length) : splice (A ++ B ++ C) A.length V = A ++ V ++ C := by
  unfold splice
  have h1 : (A ++ B ++ C).take A.length = A := by rw [List.append_assoc, List.take_left]
  have h2 : (A ++ B ++ C).drop (A.length + V.length) = C := by
    have : A.length + V.length = (A ++ B).length := by simp [h]
    rw [this, List.drop_left]
  rw [h1, h2]

theorem acells_nil (H : AH) (sz n : Nat) (x : Value) (l : List Value) (h : acells H sz n x = some l) (h0 : n = 0) : l = [] :=
  List.length_eq_zero_iff.1 (by rw [acells_length h, h0, Nat.zero_mul])

/-- Append where there is room. -/
theorem XApp.inplace {z : List Value} {bytes b o len cap m : Nat} {x : Value} {cs new C : List Value} {H : AH} {K : Value → AH → Prop} {t : Tag K} (hb : H.blk b = some (.cells cs true)) (hx : alen x = some m) (hnew : acells H z.length m x = some new)
    (hle : len + m ≤ cap) (hfit : o + len * z.length + new.length ≤ cs.length) (hC : splice cs (o + len * z.length) new = C)
    (h : K (.slice (some ⟨b, o, some 0⟩) (len + m) cap) (H.set b (.cells C true))) : XApp z bytes (.slice (some ⟨b, o, some 0⟩) len cap) x H K t := by
  subst hC
  unfold XApp rapp
  simp only [hx, hnew]
  by_cases hm : m = 0
  · have hn := acells_nil H _ _ _ _ hnew hm
    subst hn; subst hm
    rw [splice_nil, AH.set_self hb] at h
    simp only [if_true]
    exact ⟨by omega, h⟩
  · simp only [if_neg hm, if_pos hle, hb]
    exact ⟨hfit, h⟩

theorem XClear.blk {z : List Value} {b o n cap : Nat} {sp : Option Nat} {cs C : List Value} {H : AH} {K : Value → AH → Prop} {t : Tag K} (hb : H.blk b = some (.cells cs true)) (hfit : o + (zrow z n).length ≤ cs.length) (hC : splice cs o (zrow z n) = C)
    (h : K undef (H.set b (.cells C true))) : XClear z (.slice (some ⟨b, o, sp⟩) n cap) H K t := by
  subst hC
  unfold XClear rclear
  by_cases hn : n = 0
  · subst hn
    have : zrow z 0 = [] := rfl
    rw [this, splice_nil, AH.set_self hb] at h
    simp only [if_true]; exact h
  · simp only [if_neg hn, hb]
    exact ⟨hfit, h⟩

theorem XCopy.blk {sz b o len cap m k : Nat} {sp : Option Nat} {x : Value} {cs l C : List Value} {H : AH} {K : Value → AH → Prop} {t : Tag K} (hb : H.blk b = some (.cells cs true)) (hx : alen x = some m) (hk : Nat.min m len = k) (hl : acells H sz k x = some l)
    (hfit : o + l.length ≤ cs.length) (hC : splice cs o l = C) (h : K (.int .i64 k) (H.set b (.cells C true))) : XCopy sz (.slice (some ⟨b, o, sp⟩) len cap) x H K t := by
  subst hC
  unfold XCopy rcopy
  simp only [hx, hk]
  by_cases hn : k = 0
  · have hn' := acells_nil H _ _ _ _ hl hn
    subst hn'; subst hn
    rw [splice_nil, AH.set_self hb] at h
    simp only [if_true]; exact h
  · simp only [if_neg hn, hl, hb]
    exact ⟨hfit, h⟩

/-- The cells of a part of a block. -/
theorem acells_blk {H : AH} {sz n b o len cap : Nat} {sp : Option Nat} {cs : List Value} {rw : Bool} (hb : H.blk b = some (.cells cs rw)) (hn : n ≤ len) (hfit : o + n * sz ≤ cs.length) :
    acells H sz n (.slice (some ⟨b, o, sp⟩) len cap) = some ((cs.drop o).take (n * sz)) := by
  unfold acells
  by_cases h0 : n * sz = 0
  · simp only [h0, if_true, List.take_zero]
  · simp only [if_neg h0, if_neg (Nat.not_lt.2 hn), hb, if_pos hfit]

/-- Append of zeros, where it makes a new row. -/
theorem XAppz.mk' {z : List Value} {bytes len cap b o : Nat} {n : Int} {old : List Value} {H : AH} {K : Value → AH → Prop} {t : Tag K} (h0 : 0 ≤ n) (hc : cap < len + n.toNat) (hold : acells H z.length len (.slice (some ⟨b, o, some 0⟩) len cap) = some old)
    (hb : (len + n.toNat) * bytes ≤ 140737488355328)
    (h : ∀ c, len + n.toNat ≤ c → c ≤ 9223372036854775807 → K (.slice (some ⟨H.next, 0, some 0⟩) (len + n.toNat) c) (H.alloc (.cells (old ++ zrow z n.toNat ++ zrow z (c - (len + n.toNat))) true))) :
    XAppz z bytes (.slice (some ⟨b, o, some 0⟩) len cap) (.int .i64 n) H K t := by
  unfold XAppz rappz
  refine ⟨⟨h0, hc⟩, ?_⟩
  unfold rgrow
  rw [hold]
  exact ⟨hb, h⟩

/-- Two bools, compared. -/
theorem XRaw.beq {P : Program} {env : List Value} {t : TypeId} {x y : Operand} {p : TypeId} {a b : Bool} {H : AH} {K : Value → AH → Prop} {tg : Tag K} (hu : P.underlying t = some .bool) (hx : evalL env x = .bool a) (hy : evalL env y = .bool b)
    (h : K (.bool (a == b)) H) : XRaw P env (.binOp .eql t x y p) H K tg := by
  show okv (abinE P .eql t x y (evalL env x) (evalL env y)) H K
  rw [hx, hy]
  have : abinE P .eql t x y (.bool a) (.bool b) = some (.bool (a == b)) := abinE_of (by simp [anilnil, abin, hu])
  rw [this]
  exact h

theorem zrow_length (z : List Value) (n : Nat) : (zrow z n).length = n * z.length := by
  rw [← zrow_eq, List.length_map, List.length_range]

/-- What slices.overlaps tells of two blocks. -/
theorem aext_overlaps {P : Program} {f : FuncId} {fn : Func} {tS tR e : TypeId} {sz : Nat} (hf : P.funcs[f]? = some fn) (hname : (fn.name == "runtime.NumGoroutine") = false) (hb : fn.body.isNone = true)
    (hn : Extern.findNext fn = none) (he : Extern.find fn = some (Extern.SlicesOverlaps.overlaps #[tS, tS] #[tR])) (ht : P.underlying tS = some (.slice e)) (hz : sz? P e = some sz)
    {H : AH} {b1 b2 o1 o2 la ca lb cb : Nat} {c1 c2 : List Value} (h1 : H.blk b1 = some (.cells c1 true)) (h2 : H.blk b2 = some (.cells c2 true)) (hne : b1 ≠ b2) (hc2 : c2.length ≠ 0) (hla : la ≠ 0) (hlb : lb ≠ 0) :
    AExt P f [.slice (some ⟨b1, o1, some 0⟩) la ca, .slice (some ⟨b2, o2, some 0⟩) lb cb] H (fun v H' => v = .bool false ∧ H' = H) := by
  intro B ρ w args' hS hL
  obtain ⟨l⟩ := args'
  match l, hL with
  | [x, y], hL =>
    obtain ⟨hx, hy, _⟩ := hL
    cases hx with
    | slZ => exact absurd rfl hla
    | slEx hr1 =>
      rename_i r1
      cases hy with
      | slZ => exact absurd rfl hlb
      | slEx hr2 =>
        rename_i r2
        obtain ⟨r1', e1, ha1⟩ := hS.get _ _ h1
        obtain ⟨r2', e2, ha2⟩ := hS.get _ _ h2
        rw [hr1] at e1; cases e1
        rw [hr2] at e2; cases e2
        have hbne := hS.inj _ _ _ _ _ _ hne h1 h2 rfl hr1 hr2
        obtain ⟨k1, t1, z1, g1, g2, g3, g4, g5⟩ := ha1
        obtain ⟨k2, t2, z2, q1, q2, q3, q4, q5⟩ := ha2
        obtain ⟨_, rfl⟩ := g5 rfl
        have hszr : ∀ w, (Go.sizeOf e).run P w = .ok sz w := by
          obtain ⟨a1, a2⟩ := sz?_some hz
          obtain ⟨inf, hinf⟩ := Option.isSome_iff_exists.1 a1
          intro w
          rw [run_sizeOf _ hinf, a2]
        have hrun := Lib.run_overlaps_apart (P := P) w tS tR e ht sz hszr ⟨r1.blk, r1.sh + o1, none⟩ ⟨r2.blk, r2.sh + o2, none⟩ la ca lb cb hbne t1 t2 k1.size k2.size
          (by simp [World.shape?, g1]) (by simp [World.shape?, q1]) (by omega) (by simp [World.frozen?, g1]) (by simp [World.frozen?, g1])
        rw [run_callFunc_extern hf hname hb hn he]
        show Good B ρ w _ (((Extern.SlicesOverlaps.overlaps #[tS, tS] #[tR] #[.slice (some ⟨r1.blk, r1.sh + o1, none⟩) la ca, .slice (some ⟨r2.blk, r2.sh + o2, none⟩) lb cb]).run P w).andThen fun v w' => .ok (.value v) w')
        rw [hrun]
        exact Good.pure hS (.bool _) ⟨rfl, rfl⟩
  | [], hL => exact hL.elim
  | [_], hL => exact hL.2.elim
  | _ :: _ :: _ :: _, hL => exact hL.2.2.elim

end Go.Proofs.YtmknkpcdfkpobaaA
