/-
  What the law on moves made asks, in one place; no program.
-/
import Derived.Test.YtemicglkmnjibaaGreatDoorFacts2
namespace Go.Proofs.YtemicglkmnjibaaGreatDoor
set_option linter.unusedVariables false
theorem line_lt {l : List Nat} {m : Nat} (h : lineB l m = true) : ∀ c ∈ l, c < 256 := by
  intro c hc
  rcases isSign_iff.1 ((lineB_iff.1 h).2.2 c hc) with e | e | e <;> omega
theorem back_line {l : List Nat} {m : Nat} (h : lineB l m = true) : bL (bB l) = l := bL_bB (line_lt h)
theorem other_bL {s : ByteArray} (hv : lineB (bL s) 12 = true) : bL (otherB (bL s)) = turnedL (bL s) := by
  unfold otherB
  rw [if_pos hv]
  exact back_line ((lineB_turned _ 12).trans hv)
theorem law_other {s : ByteArray} (hv : lineB (bL s) 12 = true) :
    lineB (bL (otherB (bL s))) 12 = true ∧ otherB (bL (otherB (bL s))) = s ∧ wayOf (bL (otherB (bL s))) = wayOf (bL s) ∧
    (movesOf (bL (otherB (bL s))) TF).length = (movesOf (bL s) TF).length ∧ (otherB (bL s)).size = s.size := by
  have h1 := other_bL hv
  have h2 : lineB (turnedL (bL s)) 12 = true := (lineB_turned _ 12).trans hv
  refine ⟨by rw [h1]; exact h2, ?_, ?_, ?_, ?_⟩
  · rw [h1]; unfold otherB; rw [if_pos h2, turned_turned, bB_bL]
  · rw [h1]; unfold wayOf; rw [if_pos h2, if_pos hv, wayZ_turned]
  · rw [h1, mem_movesOf h2, mem_movesOf hv, moves_turned]
  · rw [← bL_length, h1, turnedL_length, bL_length]
theorem law_line {s : ByteArray} (hv : lineB (bL s) 12 = true) :
    (movesOf (bL s) TF).length = (movesOf (bL s) [84]).length + (movesOf (bL s) [70]).length ∧ blockedZ (bL s) = (((movesOf (bL s) TF).length : Int) == 0) ∧
    (∀ (j : Nat) (a b : Int × Int), (movesOf (bL s) TF)[j]? = some a → (movesOf (bL s) TF)[j + 1]? = some b → a.1 < b.1) ∧ 0 ≤ wayOf (bL s) ∧ 0 ≤ pairsOf (bL s) := by
  have e : ∀ ks, movesOf (bL s) ks = movesL (bL s) ks := fun ks => mem_movesOf hv
  refine ⟨by rw [e, e, e]; exact moves_split _, by rw [e]; exact blockedZ_len _, ?_, ?_, ?_⟩
  · rw [e]; exact movesL_rises _ _
  · unfold wayOf; rw [if_pos hv]; exact wayZ_ge _
  · unfold pairsOf; rw [if_pos hv]; exact pairsZ_ge _
/-- What holds of each move of a line. -/
def StepOk (s : ByteArray) (m : Int × Int) : Prop :=
  mkOk (bL s) m = true ∧ (madeB (bL s) m).size = s.size ∧ lineB (bL (madeB (bL s) m)) 12 = true ∧ wayOf (bL (madeB (bL s) m)) = wayOf (bL s) - (if jumpZ m = true then 2 else 1) ∧
  pairsOf (bL (madeB (bL s) m)) = pairsOf (bL s) - (if jumpZ m = true then 1 else 0) ∧ (movesOf (bL s) [84]).contains m = decide (m.1 < m.2) ∧ (movesOf (bL s) [70]).contains m = !decide (m.1 < m.2) ∧
  (movesOf (bL (otherB (bL s))) TF).contains ((s.size : Int) - 1 - m.1, (s.size : Int) - 1 - m.2) = true ∧ (0 ≤ m.1 ∧ m.1 < s.size) ∧ (0 ≤ m.2 ∧ m.2 < s.size)
theorem law_step {s : ByteArray} (hv : lineB (bL s) 12 = true) : ∀ m ∈ movesOf (bL s) TF, StepOk s m := by
  have e : ∀ ks, movesOf (bL s) ks = movesL (bL s) ks := fun ks => mem_movesOf hv
  intro m hm
  rw [e] at hm
  have hk := mk_of_mem hv hm
  obtain ⟨n1, n2, n3⟩ := next_of_mem hv hm
  have hb : bL (madeB (bL s) m) = madeL (bL s) m := by unfold madeB; rw [if_pos hk]; exact back_line n1
  obtain ⟨k1, k2⟩ := mem_kind hm
  obtain ⟨i, hi, hc, hg, h1⟩ := mem_movesL.1 hm
  have hr := goalZ_range hg
  rw [bL_length] at hr hi
  refine ⟨hk, ?_, by rw [hb]; exact n1, ?_, ?_, by rw [e]; exact k1, by rw [e]; exact k2, ?_, ⟨by omega, by omega⟩, hr⟩
  · rw [← bL_length, hb, made_length, bL_length]
  · rw [hb]; unfold wayOf; rw [if_pos n1, if_pos hv]; exact n2
  · rw [hb]; unfold pairsOf; rw [if_pos n1, if_pos hv]; exact n3
  · rw [other_bL hv, mem_movesOf ((lineB_turned _ 12).trans hv), List.contains_iff_mem]
    have := mem_turned hm
    rw [bL_length] at this
    exact this
theorem wayF_le (l : List Nat) : ∀ i t f s : Int, 0 ≤ i → i + l.length ≤ 12 → t = i + l.length - l.count 84 → 0 ≤ f → wayF l i t f s ≤ s + 12 * l.length := by
  induction l with
  | nil => intro i t f s _ _ _ _; simp [wayF]
  | cons c r ih =>
    intro i t f s h0 h1 h2 h3
    have hc := List.count_le_length (a := 84) (l := r)
    unfold wayF
    rw [List.length_cons] at h1 h2 ⊢
    by_cases e1 : c = 84
    · subst e1
      rw [List.count_cons_self] at h2
      rw [if_pos rfl]
      have := ih (i + 1) (t + 1) f (s + (t - i)) (by omega) (by omega) (by omega) (by omega)
      omega
    · rw [List.count_cons_of_ne e1] at h2
      rw [if_neg e1]
      by_cases e2 : c = 70
      · rw [if_pos e2]
        have := ih (i + 1) t (f + 1) (s + (i - f)) (by omega) (by omega) (by omega) (by omega)
        omega
      · rw [if_neg e2]
        have := ih (i + 1) t f s (by omega) (by omega) (by omega) (by omega)
        omega
theorem pairsF_le (l : List Nat) : ∀ t s : Int, 0 ≤ t → t + l.length ≤ 12 → pairsF l t s ≤ s + 12 * l.length := by
  induction l with
  | nil => intro t s _ _; simp [pairsF]
  | cons c r ih =>
    intro t s h0 h1
    unfold pairsF
    rw [List.length_cons] at h1 ⊢
    split
    · have := ih (t + 1) s (by omega) (by omega); omega
    · split
      · have := ih t (s + t) (by omega) (by omega); omega
      · have := ih t s (by omega) (by omega); omega
theorem wayOf_le (l : List Nat) : wayOf l ≤ 144 := by
  unfold wayOf
  split
  · rename_i h
    have hl := (lineB_iff.1 h).2.1
    have := wayF_le l 0 (l.length - l.count 84) 0 0 (by omega) (by omega) (by omega) (by omega)
    unfold wayZ; omega
  · omega
theorem pairsOf_le (l : List Nat) : pairsOf l ≤ 144 := by
  unfold pairsOf
  split
  · rename_i h
    have hl := (lineB_iff.1 h).2.1
    have := pairsF_le l 0 0 (by omega) (by omega)
    unfold pairsZ; omega
  · omega
end Go.Proofs.YtemicglkmnjibaaGreatDoor
