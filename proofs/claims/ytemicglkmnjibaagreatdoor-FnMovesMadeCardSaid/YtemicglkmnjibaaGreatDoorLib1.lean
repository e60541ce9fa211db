/-
  What the library's functions answer, in this claim's words; no condition.
-/
import Derived.Test.YtemicglkmnjibaaGreatDoorModel1
import Derived.Test.YtemicglkmnjibaaGreatDoorShelf
import Derived.Lib.Bytealg
import Derived.Lib.SlTrimSet
namespace Go.Proofs.YtemicglkmnjibaaGreatDoor
open Go.RowKit
set_option linter.unusedVariables false

theorem mem_bL (s : ByteArray) (c : UInt8) : c.toNat ∈ bL s ↔ c ∈ s.data.toList := by
  unfold bL
  constructor
  · intro h
    obtain ⟨x, hx, he⟩ := List.mem_map.1 h
    rwa [← UInt8.toNat_inj.1 he]
  · exact fun h => List.mem_map.2 ⟨c, h, rfl⟩
theorem indexByte_mem (l : List UInt8) (c : UInt8) : 0 ≤ Lib.indexByte l c ↔ c ∈ l := by
  induction l with
  | nil => simp [Lib.indexByte]
  | cons b l ih =>
    unfold Lib.indexByte
    have hg := Lib.indexByte_ge l c
    by_cases h : b = c
    · simp [h]
    · rw [if_neg (by simpa using h)]
      by_cases h2 : Lib.indexByte l c = -1
      · rw [if_pos (by simpa using h2)]
        have : ¬ c ∈ l := fun hm => by have := ih.2 hm; omega
        simp [this, Ne.symm h]
      · rw [if_neg (by simpa using h2)]
        have : c ∈ l := ih.1 (by omega)
        simp [this]; omega
theorem contains_bL (s : ByteArray) (c : UInt8) : decide (0 ≤ Lib.indexByte s.data.toList c) = (bL s).contains c.toNat := by
  rw [Bool.eq_iff_iff, decide_eq_true_iff, indexByte_mem, List.contains_iff_mem, mem_bL]
theorem dropWhile_nil {α : Type} (p : α → Bool) (l : List α) : l.dropWhile p = [] ↔ ∀ x ∈ l, p x = true := by
  induction l with
  | nil => simp
  | cons a l ih =>
    rw [List.dropWhile_cons]
    by_cases h : p a = true
    · rw [if_pos h, ih]; simp [h]
    · rw [if_neg h]; simp [h]
theorem trimS_nil (l cs : List UInt8) : Lib.trimS l cs = [] ↔ ∀ x ∈ l, cs.contains x = true := by
  unfold Lib.trimS Lib.trimLeftS Lib.trimRightS
  rw [dropWhile_nil]
  constructor
  · intro h x hx
    apply Decidable.byContradiction
    intro hn
    -- something of the reversed list is left: its head is not in the set
    have hne : l.reverse.dropWhile (cs.contains ·) ≠ [] := by
      rw [Ne, dropWhile_nil]
      intro h2
      exact hn (h2 x (List.mem_reverse.2 hx))
    have hh := List.head_dropWhile_not (cs.contains ·) hne
    have := h _ (List.mem_reverse.2 (List.head_mem hne))
    simp_all
  · intro h x hx
    have hx2 : x ∈ l.reverse.dropWhile (cs.contains ·) := List.mem_reverse.1 hx
    exact h x (List.mem_reverse.1 ((List.dropWhile_suffix _).subset hx2))
theorem trimSigns (s : ByteArray) : (Lib.trimS s.data.toList [46, 70, 84]).isEmpty = (bL s).all isSign := by
  rw [Bool.eq_iff_iff, List.isEmpty_iff, trimS_nil, List.all_eq_true]
  unfold bL
  constructor
  · intro h x hx
    obtain ⟨u, hu, rfl⟩ := List.mem_map.1 hx
    have := h u hu
    simp only [List.contains_iff_mem, List.mem_cons, List.mem_nil_iff, or_false] at this
    rcases this with rfl | rfl | rfl <;> rfl
  · intro h u hu
    have := h u.toNat (List.mem_map.2 ⟨u, hu, rfl⟩)
    simp only [isSign, Bool.or_eq_true, beq_iff_eq] at this
    simp only [List.contains_iff_mem, List.mem_cons, List.mem_nil_iff, or_false]
    rcases this with (h | h) | h
    · exact .inr (.inr (UInt8.toNat_inj.1 h))
    · exact .inr (.inl (UInt8.toNat_inj.1 h))
    · exact .inl (UInt8.toNat_inj.1 h)
theorem extract_one (s : ByteArray) {k : Nat} (h : k < s.size) : s.extract k (k + 1) = ⟨#[UInt8.ofNat (chN (bL s) k)]⟩ := by
  rw [← chN_eq s h]
  apply ByteArray.ext
  simp only [ByteArray.data_extract]
  apply Array.ext'
  have h2 : k < s.data.size := h
  simp only [Array.toList_extract, List.extract_eq_take_drop]
  rw [show k + 1 - k = 1 by omega, List.drop_eq_getElem_cons (by simpa using h2)]
  simp
  rfl
end Go.Proofs.YtemicglkmnjibaaGreatDoor
