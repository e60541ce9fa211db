/-
  What the functions compute that turn a text around (walks); no condition but on sizes.
-/
import Derived.Test.YtemicglkmnjibaaGreatDoorLineF
namespace Go.Proofs.YtemicglkmnjibaaGreatDoor
open Go.RowKit
set_option linter.unusedVariables false
set_option linter.unusedSimpArgs false
theorem chN_set (l : List Nat) (i c p : Nat) (h : i < l.length) : chN (l.set i c) p = if p = i then c else chN l p := by
  unfold chN
  rw [List.getD_eq_getElem?_getD, List.getD_eq_getElem?_getD, List.getElem?_set]
  by_cases e : i = p
  · subst e; simp [h]
  · rw [if_neg e, if_neg (fun h => e h.symm)]
theorem chN_reverse (l : List Nat) (p : Nat) (h : p < l.length) : chN l.reverse p = chN l (l.length - 1 - p) := by
  unfold chN
  rw [List.getD_eq_getElem?_getD, List.getD_eq_getElem?_getD, List.getElem?_reverse h]
theorem chN_ext {l m : List Nat} (h : l.length = m.length) (he : ∀ p, p < l.length → chN l p = chN m p) : l = m := by
  apply List.ext_getElem h
  intro i h1 h2
  have := he i h1
  rwa [chN_of_lt h1, chN_of_lt h2] at this
theorem below_of_only {w w' : World} {g : Nat} {B : Nat} (h : w.grownBy w' (some g)) (hB : B ≤ g) (hs : B ≤ w.heap.size) : Below B w w' :=
  ⟨h.os, h.tape, h.output, h.size, fun i hi => h.block i (by omega) (by intro e; injection e; omega)⟩
theorem only_setCell {a w : World} {g : Nat} (h : a.grownBy w (some g)) (j : Nat) (u : Value) : a.grownBy (w.setCell ⟨g, j, none⟩ u) (some g) :=
  ⟨h.os, h.tape, h.output, by simpa [World.setCell] using h.size, fun i hi hne => (Below.heap_setCell w ⟨g, j, none⟩ u i (fun e => hne (by rw [e]))).trans (h.block i hi hne)⟩
theorem only_drew {a w : World} {g : Nat} (h : a.grownBy w (some g)) : a.grownBy w.drew (some g) := ⟨h.os, h.tape, h.output, h.size, h.block⟩
theorem only_trans {a b c : World} {g : Nat} (h : a.grownBy b (some g)) (k : Below b.heap.size b c) : a.grownBy c (some g) :=
  ⟨k.os.trans h.os, k.tape.trans h.tape, k.output.trans h.output, Nat.le_trans h.size k.size, fun i hi hne => (k.block i (Nat.lt_of_lt_of_le hi h.size)).trans (h.block i hi hne)⟩
def Rev (l m : List Nat) (k : Nat) : Prop := m.length = l.length ∧ ∀ p, p < l.length → chN m p = if p < k ∨ l.length - 1 - k < p then chN l (l.length - 1 - p) else chN l p
theorem Rev.zero (l : List Nat) : Rev l l 0 := ⟨rfl, fun p hp => by rw [if_neg (by omega)]⟩
theorem Rev.step {l m : List Nat} {k : Nat} (h : Rev l m k) (hk : k < l.length - 1 - k) : Rev l ((m.set k (chN m (l.length - 1 - k))).set (l.length - 1 - k) (chN m k)) (k + 1) := by
  obtain ⟨hl, hp⟩ := h
  refine ⟨by simp [hl], fun p hpl => ?_⟩
  rw [chN_set _ _ _ _ (by simp [hl]; omega)]
  by_cases e : p = l.length - 1 - k
  · rw [if_pos e, if_pos (by omega), hp k (by omega), if_neg (by omega)]
    congr 1; omega
  · rw [if_neg e, chN_set _ _ _ _ (by omega)]
    by_cases e2 : p = k
    · rw [if_pos e2, if_pos (by omega), hp _ (by omega), if_neg (by omega)]
      congr 1; omega
    · rw [if_neg e2, hp p hpl]
      by_cases h1 : p < k ∨ l.length - 1 - k < p
      · rw [if_pos h1, if_pos (by omega)]
      · rw [if_neg h1, if_neg (by omega)]
theorem Rev.done {l m : List Nat} {k : Nat} (h : Rev l m k) (hk : ¬ k < l.length - 1 - k) : m = l.reverse := by
  obtain ⟨hl, hp⟩ := h
  refine chN_ext (by simp [hl]) fun p hpl => ?_
  rw [chN_reverse _ _ (by omega), hp p (by omega)]
  by_cases h1 : p < k ∨ l.length - 1 - k < p
  · rw [if_pos h1]
  · rw [if_neg h1]; congr 1; omega
set_option maxRecDepth 100000 in
set_option maxHeartbeats 2000000 in
theorem reverse_any (g n c : Nat) (l : List Nat) (w : World) (hn : l.length = n) (hs : n ≤ 1000000) (hbb : BB w 5 g l) :
    Calls Tryz.prog 94 #[.slice (some ⟨g, 0, none⟩) n c] w fun e w' => e = .returned (.tuple #[]) ∧ BB w' 5 g l.reverse ∧ w.grownBy w' (some g) := by
  have Hbb := Lib.hid hbb
  clear hbb
  go_enter Tryz.func94, Tryz.ntmps94
  go_wp2
  go_loopw [2, 3] (fun i j wr => ∃ (k : Nat) (m : List Nat), k ≤ n ∧ i = .int .i64 k ∧ j = .int .i64 ((n : Int) - 1 - k) ∧ Hid (Rev l m k) ∧ BB wr 5 g m ∧ w.grownBy wr (some g))
    (fun i _ _ => n - (intOf i).toNat)
  case atStart => exact ⟨0, l, Nat.zero_le _, rfl, by simp, Rev.zero l, Hbb.out, World.grownBy.refl w _⟩
  case round =>
    obtain ⟨k, m, hk, rfl, rfl, HR, hb, hg⟩ := hrel
    have hml : m.length = n := HR.out.1.trans hn
    by_cases hlt : (k : Int) < (n : Int) - 1 - k
    · obtain ⟨q, hq⟩ : ∃ q : Nat, q = n - 1 - k := ⟨_, rfl⟩
      have hqi : (n : Int) - 1 - k = q := by omega
      have ck := hb.cell (j := k) (by omega)
      have cq := hb.cell (j := q) (by omega)
      have fk := hb.free (j := k) (by omega)
      have fq := hb.free (j := q) (by omega)
      have hkn : (k : Int) < n := by omega
      have hqn : (q : Int) < n := by omega
      have hkq : k < q := by omega
      have hst := HR.out.step (by rw [hn]; omega)
      rw [hn, ← hq] at hst
      have Hst := Lib.hid hst
      have Hq := Lib.hid hq
      have hbs := ((hb.set (j := k) (by omega) (chN m q)).set (j := q) (by rw [List.length_set]; omega) (chN m k))
      have Hbs := Lib.hid hbs
      have Hg := Lib.hid hg
      rw [hqi]
      clear hst hq hbs hb HR hml hqi hg Hbb hn
      go_wp2
      go_region
      go_wp2
      go_roundw
      case rel => exact ⟨k + 1, _, by omega, by go_num, by have := Hq.out; congr 1; omega, Hst, Hbs.out.drew, only_drew (only_setCell (only_setCell Hg.out k _) q _)⟩
      case measure => simp [intOf]; omega
    · have hrev := HR.out.done (by rw [hn]; omega)
      have hlt' : decide ((k : Int) < (n : Int) - 1 - k) = false := decide_eq_false hlt
      subst hrev
      go_wp2
      go_end0
      exact ⟨rfl, hb, hg⟩
theorem otherN_lt {c : Nat} (h : c < 256) : otherN c < 256 := by unfold otherN; split; omega; split <;> omega
def turnUpto (l : List Nat) (k : Nat) : List Nat := (l.take k).map otherN ++ l.drop k
theorem turnUpto_length (l : List Nat) (k : Nat) : (turnUpto l k).length = l.length := by simp [turnUpto]; omega
theorem turnUpto_at {l : List Nat} {k : Nat} (h : k < l.length) : chN (turnUpto l k) k = chN l k := by
  have e : ((l.take k).map otherN).length = k := by simp; omega
  unfold turnUpto chN
  rw [List.getD_eq_getElem?_getD, List.getElem?_append_right (by omega), e, Nat.sub_self, List.getElem?_drop, Nat.add_zero, List.getD_eq_getElem?_getD]
theorem turnUpto_succ {l : List Nat} {k : Nat} (h : k < l.length) : (turnUpto l k).set k (otherN (chN l k)) = turnUpto l (k + 1) := by
  have e : ((l.take k).map otherN).length = k := by simp; omega
  unfold turnUpto
  rw [drop_chN h, List.set_append_right _ _ (by omega), e, Nat.sub_self, List.set_cons_zero, List.take_succ_eq_append_getElem h, chN_of_lt h, List.map_append]
  simp
set_option maxRecDepth 100000 in
set_option maxHeartbeats 2000000 in
theorem turned_any (s : ByteArray) (w : World) (hs : s.size ≤ 1000000) :
    Calls Tryz.prog 61 #[.string s] w fun e w' => e = .returned (.string (bB (turnedL (bL s)))) ∧ Below w.heap.size w w' := by
  obtain ⟨W1, c1, hconv, hbb, hb1, hz1⟩ := bytes_of (P := Tryz.prog) w 9 22 5 s Tryz.underlying9 Tryz.underlying22 Tryz.underlying5
  have hl := bL_length s
  have hrev := reverse_any w.heap.size s.size c1 (bL s) W1 hl hs hbb
  have Hbb := Lib.hid hbb
  have hlr : (bL s).reverse.length = s.size := by simp [hl]
  have Hlr := Lib.hid hlr
  clear hbb hl hlr
  go_enter Tryz.func61, Tryz.ntmps61
  go_wp2_with (go_at_call 94; refine hrev.mono ?_; rintro e W2 ⟨rfl, hb2, hg2⟩)
  have Hb : Hid (Below w.heap.size w W2) := hb1.grown hg2 hb1.size (fun k hk => by injection hk; omega)
  clear hg2 hrev hconv
  go_loopw [4, 5, 12] (fun v4 v5 i wr => ∃ k : Nat, k ≤ s.size ∧ i = .int .i64 k ∧ BB wr 5 w.heap.size (turnUpto (bL s).reverse k) ∧ Below w.heap.size w wr)
    (fun _ _ i _ => s.size - (intOf i).toNat)
  case atStart => exact ⟨0, Nat.zero_le _, rfl, by simpa [turnUpto] using hb2, Hb⟩
  case round =>
    obtain ⟨k, hk, rfl, hbk, hbw⟩ := hrel
    have hlen : (turnUpto (bL s).reverse k).length = s.size := (turnUpto_length _ _).trans Hlr.out
    by_cases hlt : k < s.size
    · have ck := hbk.cell (j := k) (by omega)
      rw [turnUpto_at (by rw [Hlr.out]; exact hlt)] at ck
      have fk := hbk.free (j := k) (by omega)
      have hset := hbk.set (j := k) (by omega) (otherN (chN (bL s).reverse k))
      rw [turnUpto_succ (by rw [Hlr.out]; exact hlt)] at hset
      have Hset := Lib.hid hset
      have hkn : (k : Int) < s.size := by omega
      clear hset hbk hlen hb2
      go_wp2_with (go_at_call 95; refine (other_any _ _).mono ?_; rintro e w' ⟨rfl, rfl⟩)
      go_roundw
      case rel => exact ⟨k + 1, by omega, by go_num, Hset.out, hbw.setCell (Nat.le_refl _) _⟩
      case measure => simp [intOf]; omega
    · have hke : k = s.size := by omega
      have hfin : turnUpto (bL s).reverse k = turnedL (bL s) := by
        unfold turnUpto turnedL
        rw [List.take_of_length_le (by rw [Hlr.out]; omega), List.drop_of_length_le (by rw [Hlr.out]; omega), List.append_nil]
      rw [hfin] at hbk hlen
      have hback := hbk.back (P := Tryz.prog) (Ts := 22) (Td := 9) Tryz.underlying22 Tryz.underlying5 Tryz.underlying9 c1
      rw [hlen] at hback
      clear hke hfin hlen
      go_wp2
      go_ret
      exact ⟨rfl, hbw⟩
theorem OtherLine_any (s : ByteArray) (w : World) (hs : s.size ≤ 140737488351232) :
    Calls Tryz.prog 19 #[.string s] w fun e w' => e = .returned (.tuple #[.string (otherB (bL s)), .bool (lineB (bL s) 12)]) ∧ Below w.heap.size w w' := by
  by_cases hv : lineB (bL s) 12 = true
  · have hsz := size_of_line hv
    have hm : otherB (bL s) = bB (turnedL (bL s)) := by unfold otherB; rw [if_pos hv]
    have Hm := Lib.hid hm
    clear hm
    go_enter Tryz.func19, Tryz.ntmps19
    go_wp2_with (first | (go_at_call 22; refine (IsLine_any s _ hs).mono ?_; rintro e w1 ⟨rfl, hb1⟩) | (go_at_call 61; refine (turned_any s _ (by omega)).mono ?_; rintro e w2 ⟨rfl, hb2⟩))
    go_ret2
    exact ⟨by rw [Hm.out, hv]; rfl, bel_trans hb1 hb2⟩
  · have hf : lineB (bL s) 12 = false := by simpa using hv
    have hm : otherB (bL s) = ⟨#[]⟩ := by unfold otherB; rw [if_neg hv]
    have Hm := Lib.hid hm
    clear hm hv
    go_enter Tryz.func19, Tryz.ntmps19
    go_wp2_with (go_at_call 22; refine (IsLine_any s _ hs).mono ?_; rintro e w1 ⟨rfl, hb1⟩)
    go_ret2
    exact ⟨by rw [Hm.out, hf]; rfl, hb1⟩
end Go.Proofs.YtemicglkmnjibaaGreatDoor
