/- What a slice reads as; heaps that only grow. -/
import Derived.Test.YtmknkpcdfkpobaaA15
set_option linter.unusedVariables false
set_option linter.unusedSimpArgs false
namespace Go.Proofs.YtmknkpcdfkpobaaA
open Go.RowKit

/-- From the place o of the block b on stand the cells l. -/
def CellsR (H : AH) (b o : Nat) (l : List Value) : Prop :=
  b < H.next ∧ ∃ cs rw, H.blk b = some (.cells cs rw) ∧ o + l.length ≤ cs.length ∧ (cs.drop o).take l.length = l

theorem CellsR.ext {H H' : AH} (hE : Ext H H') {b o : Nat} {l : List Value} (h : CellsR H b o l) : CellsR H' b o l := by
  obtain ⟨h1, cs, rw, h2, h3, h4⟩ := h
  exact ⟨Nat.lt_of_lt_of_le h1 hE.next, cs, rw, by rw [hE.blk b h1]; exact h2, h3, h4⟩

theorem CellsR.load {H : AH} {b o : Nat} {l : List Value} (h : CellsR H b o l) {i : Nat} {v : Value} (hi : l[i]? = some v) : rload1 H b (o + i) = some v := by
  obtain ⟨_, cs, rw, h2, h3, h4⟩ := h
  have : (cs.drop o)[i]? = some v := by
    rw [← h4, List.getElem?_take] at hi
    split at hi
    · exact hi
    · simp at hi
  rw [List.getElem?_drop] at this
  simp only [rload1, h2, this]

theorem CellsR.part {H : AH} {b o : Nat} {l : List Value} (h : CellsR H b o l) (k n : Nat) (hk : k + n ≤ l.length) : CellsR H b (o + k) ((l.drop k).take n) := by
  obtain ⟨h1, cs, rw, h2, h3, h4⟩ := h
  have hl : ((l.drop k).take n).length = n := by simp; omega
  refine ⟨h1, cs, rw, h2, by rw [hl]; omega, ?_⟩
  rw [hl, ← h4, List.drop_take, List.drop_drop, List.take_take]
  congr 1
  omega

theorem CellsR.loadN {H : AH} {b o : Nat} {l : List Value} (h : CellsR H b o l) {n : Nat} (hn : n = l.length) : rloadN H n b o = some (.agg l.toArray) := by
  obtain ⟨_, cs, rw, h2, h3, h4⟩ := h
  subst hn
  simp only [rloadN, h2, if_pos h3, h4]

/-- A slice of n elements of sz cells each, at a, reads as the cells l. -/
structure Sl (H : AH) (sz : Nat) (l : List Value) (a : Option Addr) (n cap : Nat) : Prop where
  len : l.length = n * sz
  le : n ≤ cap
  nil : a = none → n = 0 ∧ cap = 0
  get : 0 < n → ∃ b o sp, a = some ⟨b, o, some sp⟩ ∧ CellsR H b o l

theorem Sl.ext {H H' : AH} (hE : Ext H H') {sz : Nat} {l : List Value} {a : Option Addr} {n cap : Nat} (h : Sl H sz l a n cap) : Sl H' sz l a n cap :=
  ⟨h.len, h.le, h.nil, fun hn => let ⟨b, o, sp, h1, h2⟩ := h.get hn; ⟨b, o, sp, h1, h2.ext hE⟩⟩

theorem Sl.nil' (H : AH) (sz : Nat) : Sl H sz [] none 0 0 := ⟨by simp, Nat.le_refl _, fun _ => ⟨rfl, rfl⟩, fun h => absurd h (Nat.lt_irrefl 0)⟩

/-- An element of a slice: its place. -/
theorem xelem_sl {H : AH} {sz : Nat} {l : List Value} {a : Option Addr} {n cap : Nat} {k : IntKind} {i : Int} {K : Value → AH → Prop} {t : Tag K} (hs : Sl H sz l a n cap) (h0 : 0 ≤ i) (h1 : i < n)
    (h : ∀ b o, CellsR H b o ((l.drop (i.toNat * sz)).take sz) → K (.pointer (some ⟨b, o, none⟩)) H) : xelem (base (.slice a n cap)) n sz (.int k i) H K t := by
  obtain ⟨b, o, sp, rfl, hc⟩ := hs.get (by omega)
  refine ⟨⟨h0, h1⟩, h b _ (hc.part (i.toNat * sz) sz ?_)⟩
  rw [hs.len]
  have : i.toNat + 1 ≤ n := by omega
  have := Nat.mul_le_mul_right sz this
  rw [Nat.add_mul, Nat.one_mul] at this
  exact this

/-- One cell of it, read. -/
theorem xload_sl {H : AH} {l : List Value} {b o : Nat} {v : Value} {K : Value → AH → Prop} {t : Tag K} (hc : CellsR H b o l) (i : Nat) (hv : l[i]? = some v) (h : K v H) : XV (rload1 H b (o + i)) H K t :=
  XV.mk' (hc.load hv) h

theorem xload_sl0 {H : AH} {l : List Value} {b o : Nat} {v : Value} {K : Value → AH → Prop} {t : Tag K} (hc : CellsR H b o l) (hv : l[0]? = some v) (h : K v H) : XV (rload1 H b o) H K t :=
  XV.mk' (hc.load hv) h

/-! ### Slices of ints -/

def vi (n : Int) : Value := .int .i64 n

abbrev IntsR (H : AH) (xs : List Int) (a : Option Addr) (cap : Nat) : Prop := Sl H 1 (xs.map (.int .i64)) a xs.length cap

/-- An int out of a slice of ints. -/
theorem xelem_int {H : AH} {xs : List Int} {a : Option Addr} {n cap : Nat} {k : IntKind} {i : Int} {K : Value → AH → Prop} {t : Tag K} (hs : Sl H 1 (xs.map (.int .i64)) a n cap) (h0 : 0 ≤ i) (h1 : i < n)
    (h : ∀ b o, rload1 H b o = some (.int .i64 (xs.getD i.toNat 0)) → K (.pointer (some ⟨b, o, none⟩)) H) : xelem (base (.slice a n cap)) n 1 (.int k i) H K t := by
  refine xelem_sl hs h0 h1 fun b o hc => h b o ?_
  have hlen : xs.length = n := by simpa using hs.len
  have := hc.load (i := 0) (v := .int .i64 (xs.getD i.toNat 0)) (by
    rw [Nat.mul_one, List.getElem?_take, if_pos (by omega), List.getElem?_drop, Nat.add_zero, List.getElem?_map]
    simp [List.getD, List.getElem?_eq_getElem (show i.toNat < xs.length by omega)])
  exact this

/-! ### Slices of one's own -/

/-- A slice that the call made: it alone leads to its block, which lies from lo on; its n elements are the cells cs, behind which there may be room. -/
def Own (H : AH) (lo sz : Nat) (cs : List Value) (a : Option Addr) (n cap : Nat) : Prop :=
  (a = none ∧ n = 0 ∧ cap = 0 ∧ cs = []) ∨
  ∃ b spare, a = some ⟨b, 0, some 0⟩ ∧ lo ≤ b ∧ b < H.next ∧ H.blk b = some (.cells (cs ++ spare) true) ∧ cs.length = n * sz ∧ spare.length = (cap - n) * sz ∧ n ≤ cap ∧ cap ≤ 9223372036854775807

theorem Own.nil (H : AH) (lo sz : Nat) : Own H lo sz [] none 0 0 := .inl ⟨rfl, rfl, rfl, rfl⟩

theorem Own.sl {H : AH} {lo sz : Nat} {cs : List Value} {a : Option Addr} {n cap : Nat} (h : Own H lo sz cs a n cap) : Sl H sz cs a n cap := by
  rcases h with ⟨rfl, rfl, rfl, rfl⟩ | ⟨b, spare, rfl, h1, h2, h3, h4, h5, h6, h7⟩
  · exact Sl.nil' H sz
  · refine ⟨h4, h6, fun h => (by cases h), fun _ => ⟨b, 0, 0, rfl, h2, _, _, h3, by simp, by simp⟩⟩

theorem Own.ext {H H' : AH} (hE : Ext H H') {lo sz : Nat} {cs : List Value} {a : Option Addr} {n cap : Nat} (h : Own H lo sz cs a n cap) : Own H' lo sz cs a n cap := by
  rcases h with h | ⟨b, spare, h0, h1, h2, h3, h4⟩
  · exact .inl h
  · exact .inr ⟨b, spare, h0, h1, Nat.lt_of_lt_of_le h2 hE.next, by rw [hE.blk b h2]; exact h3, h4⟩

theorem Own.lower {H : AH} {lo lo' sz : Nat} {cs : List Value} {a : Option Addr} {n cap : Nat} (h : Own H lo sz cs a n cap) (hl : lo' ≤ lo) : Own H lo' sz cs a n cap := by
  rcases h with h | ⟨b, spare, h0, h1, h2⟩
  · exact .inl h
  · exact .inr ⟨b, spare, h0, Nat.le_trans hl h1, h2⟩

/-- What was there is as it was, but for the block of the slice a. -/
structure Mod (H H' : AH) (a : Option Addr) : Prop where
  next : H.next ≤ H'.next
  blk : ∀ b, b < H.next → a ≠ some ⟨b, 0, some 0⟩ → H'.blk b = H.blk b

theorem Mod.ext {H0 H H' : AH} {a : Option Addr} {sz : Nat} {cs : List Value} {n cap : Nat} (hE : Ext H0 H) (ho : Own H H0.next sz cs a n cap) (hm : Mod H H' a) : Ext H0 H' := by
  refine ⟨Nat.le_trans hE.next hm.next, fun b hb => ?_⟩
  have hne : a ≠ some ⟨b, 0, some 0⟩ := by
    rcases ho with ⟨rfl, _⟩ | ⟨b', _, rfl, h1, _⟩
    · intro e; cases e
    · intro e; cases e; omega
  rw [hm.blk b (Nat.lt_of_lt_of_le hb hE.next) hne]
  exact hE.blk b hb

/-- A row of another block stays. -/
theorem CellsR.mod {H H' : AH} {a : Option Addr} (hm : Mod H H' a) {b o : Nat} {l : List Value} (hne : a ≠ some ⟨b, 0, some 0⟩) (h : CellsR H b o l) : CellsR H' b o l := by
  obtain ⟨h1, cs, rw, h2, h3, h4⟩ := h
  exact ⟨Nat.lt_of_lt_of_le h1 hm.next, cs, rw, by rw [hm.blk b h1 hne]; exact h2, h3, h4⟩

theorem acells_sl {H : AH} {sz : Nat} {l : List Value} {a : Option Addr} {n cap : Nat} (h : Sl H sz l a n cap) : acells H sz n (.slice a n cap) = some l := by
  by_cases h0 : n = 0
  · subst h0
    have hl : l = [] := List.length_eq_zero_iff.1 (by rw [h.len]; simp)
    subst hl
    cases a with
    | none =>
      obtain ⟨_, rfl⟩ := h.nil rfl
      rfl
    | some a => simp [acells]
  · obtain ⟨b, o, sp, rfl, h1, cs, rw, h2, h3, h4⟩ := h.get (by omega)
    rw [h.len] at h3 h4
    by_cases hz : n * sz = 0
    · have hl : l = [] := List.length_eq_zero_iff.1 (by rw [h.len]; exact hz)
      subst hl
      simp [acells, hz]
    · simp only [acells, if_neg hz, if_neg (Nat.lt_irrefl n), h2, if_pos h3, h4]

/-- Append onto one's own slice. -/
theorem XApp.own {z : List Value} {bytes : Nat} {a : Option Addr} {n cap m : Nat} {x : Value} {cs new : List Value} {lo : Nat} {H : AH} {K : Value → AH → Prop} {t : Tag K} (ho : Own H lo z.length cs a n cap)
    (hx : alen x = some m) (hnew : acells H z.length m x = some new) (hb : (n + m) * bytes ≤ 140737488355328) (hlo : lo ≤ H.next)
    (h : ∀ a' cap' H', Own H' lo z.length (cs ++ new) a' (n + m) cap' → Mod H H' a → K (.slice a' (n + m) cap') H') : XApp z bytes (.slice a n cap) x H K t := by
  have hnl := acells_length hnew
  have grow : ∀ {s : Value} {n0 : Nat}, acells H z.length n0 s = some cs → n0 = n → ∀ c, n0 + m ≤ c → c ≤ 9223372036854775807 →
      K (.slice (some ⟨H.next, 0, some 0⟩) (n0 + m) c) (H.alloc (.cells (cs ++ new ++ zrow z (c - (n0 + m))) true)) := by
    intro s n0 hcs hn0 c h1 h2
    subst hn0
    refine h _ _ _ (.inr ⟨H.next, zrow z (c - (n0 + m)), rfl, hlo, Nat.lt_succ_self _, upd_same _ _ _, ?_, ?_, h1, h2⟩) ⟨Nat.le_succ _, fun b hb _ => upd_ne _ _ (Nat.ne_of_lt hb)⟩
    · rw [List.length_append, hnl, acells_length hcs, Nat.add_mul]
    · rw [← zrow_eq, List.length_map, List.length_range]
  unfold XApp rapp
  simp only [hx, hnew]
  rcases ho with ⟨rfl, rfl, rfl, rfl⟩ | ⟨b, spare, rfl, h1, h2, h3, h4, h5, h6, h7⟩
  · by_cases hm : m = 0
    · subst hm
      simp only [if_true]
      have hnil : new = [] := List.length_eq_zero_iff.1 (by rw [hnl]; simp)
      subst hnil
      exact h none 0 H (Own.nil H lo _) ⟨Nat.le_refl _, fun _ _ _ => rfl⟩
    · simp only [if_neg hm]
      have hac : acells H z.length 0 (.slice none 0 0) = some [] := by simp [acells]
      unfold rgrow
      simp only [hac]
      exact ⟨hb, grow hac rfl⟩
  · have hac : acells H z.length n (.slice (some ⟨b, 0, some 0⟩) n cap) = some cs := by
      have ho' : Own H lo z.length cs (some ⟨b, 0, some 0⟩) n cap := .inr ⟨b, spare, rfl, h1, h2, h3, h4, h5, h6, h7⟩
      exact acells_sl ho'.sl
    try dsimp only
    by_cases hm : m = 0
    · subst hm
      simp only [if_true]
      have hnil : new = [] := List.length_eq_zero_iff.1 (by rw [hnl]; simp)
      subst hnil
      refine ⟨h6, h _ _ H (.inr ⟨b, spare, rfl, h1, h2, by simpa using h3, by simpa using h4, by simpa using h5, h6, h7⟩) ⟨Nat.le_refl _, fun _ _ _ => rfl⟩⟩
    · simp only [if_neg hm]
      by_cases hc : n + m ≤ cap
      · simp only [if_pos hc, h3]
        have hsp : spare.length = m * z.length + (cap - (n + m)) * z.length := by
          rw [h5, ← Nat.add_mul]; congr 1; omega
        refine ⟨by simp only [List.length_append]; omega, h _ _ _ (.inr ⟨b, spare.drop new.length, rfl, h1, h2, ?_, ?_, ?_, hc, h7⟩) ⟨Nat.le_refl _, fun x hx hne => upd_ne _ _ (fun e => hne (by rw [e]))⟩⟩
        · show upd H.blk b _ b = _
          rw [upd_same]
          congr 2
          unfold splice
          rw [Nat.zero_add, ← h4, List.take_left, List.drop_append]
          rw [List.drop_eq_nil_of_le (by omega)]
          simp
        · rw [List.length_append, hnl, h4, Nat.add_mul]
        · rw [List.length_drop, hnl]; omega
      · simp only [if_neg hc]
        unfold rgrow
        simp only [hac]
        exact ⟨hb, grow hac rfl⟩

/-- One element more. -/
theorem XApp.one {z : List Value} {bytes : Nat} {a : Option Addr} {n cap : Nat} {cs l : List Value} {lo : Nat} {H : AH} {K : Value → AH → Prop} {t : Tag K} (ho : Own H lo z.length cs a n cap)
    (hl : l.length = z.length) (hb : (n + 1) * bytes ≤ 140737488355328) (hlo : lo ≤ H.next)
    (h : ∀ a' cap' H', Own H' lo z.length (cs ++ l) a' (n + 1) cap' → Mod H H' a → K (.slice a' (n + 1) cap') H') : XApp z bytes (.slice a n cap) (.slice (some ⟨H.next, 0, some 0⟩) 1 1) (H.alloc (.cells l true)) K t := by
  refine XApp.own (ho.ext (Ext.alloc H _)) (m := 1) rfl (new := l) ?_ hb (Nat.le_succ_of_le hlo) fun a' cap' H' ho' hm => h a' cap' H' ho' ⟨Nat.le_trans (Nat.le_succ _) hm.next, fun b hb hne => ?_⟩
  · have hblk : (H.alloc (.cells l true)).blk H.next = some (.cells l true) := upd_same _ _ _
    unfold acells
    simp only [hblk, Nat.one_mul, Nat.lt_irrefl, if_false, Nat.zero_add, List.drop_zero]
    by_cases hz : z.length = 0
    · have : l = [] := List.length_eq_zero_iff.1 (by omega)
      subst this
      rw [if_pos hz]
    · rw [if_neg hz, if_pos (by omega), ← hl, List.take_length]
  · rw [hm.blk b (Nat.lt_succ_of_lt hb) hne]
    exact upd_ne _ _ (Nat.ne_of_lt hb)

end Go.Proofs.YtmknkpcdfkpobaaA
