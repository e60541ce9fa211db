/-
  What one move does to a line; no program.
-/
import Derived.Test.YtemicglkmnjibaaGreatDoorFacts1
namespace Go.Proofs.YtemicglkmnjibaaGreatDoor
set_option linter.unusedVariables false
set_option linter.unusedSimpArgs false
theorem chN_lt_of {l : List Nat} {i c : Nat} (h : chN l i = c) (hc : c ≠ 0) : i < l.length := by
  rcases Nat.lt_or_ge i l.length with h1 | h1
  · exact h1
  · rw [chN_ge h1] at h; exact absurd h.symm hc
theorem cut2 {l : List Nat} {i x y : Nat} (h1 : chN l i = x) (h2 : chN l (i + 1) = y) (hy : y ≠ 0) : ∃ a b, l = a ++ x :: y :: b ∧ a.length = i := by
  have hl := chN_lt_of h2 hy
  refine ⟨l.take i, l.drop (i + 2), ?_, by simp; omega⟩
  rw [← h1, ← h2, ← drop_chN hl, ← drop_chN (by omega), List.take_append_drop]
theorem cut3 {l : List Nat} {i x y z : Nat} (h1 : chN l i = x) (h2 : chN l (i + 1) = y) (h3 : chN l (i + 2) = z) (hz : z ≠ 0) : ∃ a b, l = a ++ x :: y :: z :: b ∧ a.length = i := by
  have hl := chN_lt_of h3 hz
  refine ⟨l.take i, l.drop (i + 3), ?_, by simp; omega⟩
  rw [← h1, ← h2, ← h3, ← drop_chN hl, ← drop_chN (by omega), ← drop_chN (by omega), List.take_append_drop]
theorem goal_cases {l : List Nat} {i : Nat} {t : Int} (h : goalZ l i = some t) :
    (∃ a b, l = a ++ 84 :: 46 :: b ∧ i = a.length ∧ t = (a.length : Int) + 1) ∨ (∃ a b, l = a ++ 84 :: 70 :: 46 :: b ∧ i = a.length ∧ t = (a.length : Int) + 2) ∨
    (∃ a b, l = a ++ 46 :: 70 :: b ∧ i = a.length + 1 ∧ t = (a.length : Int)) ∨ (∃ a b, l = a ++ 46 :: 84 :: 70 :: b ∧ i = a.length + 2 ∧ t = (a.length : Int)) := by
  by_cases h1 : chN l i = 84
  · rw [goal84 h1] at h
    split at h
    · rename_i h2
      injection h with h
      obtain ⟨a, b, hl, ha⟩ := cut2 h1 h2 (by decide)
      exact .inl ⟨a, b, hl, ha.symm, by omega⟩
    · split at h
      · rename_i h2 h3
        injection h with h
        obtain ⟨a, b, hl, ha⟩ := cut3 h1 h3.1 h3.2 (by decide)
        exact .inr (.inl ⟨a, b, hl, ha.symm, by omega⟩)
      · cases h
  · by_cases h2 : chN l i = 70
    · rw [goal70 h2] at h
      split at h
      · rename_i h3
        injection h with h
        obtain ⟨a, b, hl, ha⟩ := cut2 (i := i - 1) (y := 70) h3.2 (by rw [show i - 1 + 1 = i by omega]; exact h2) (by decide)
        exact .inr (.inr (.inl ⟨a, b, hl, by omega, by omega⟩))
      · split at h
        · rename_i h3 h4
          injection h with h
          obtain ⟨a, b, hl, ha⟩ := cut3 (i := i - 2) (y := 84) (z := 70) h4.2.2 (by rw [show i - 2 + 1 = i - 1 by omega]; exact h4.2.1) (by rw [show i - 2 + 2 = i by omega]; exact h2) (by decide)
          exact .inr (.inr (.inr ⟨a, b, hl, by omega, by omega⟩))
        · cases h
    · rw [goal_none_of h1 h2] at h; cases h
theorem chN_mid (a : List Nat) (r : List Nat) (k : Nat) : chN (a ++ r) (a.length + k) = chN r k := by
  unfold chN; simp [List.getD_eq_getElem?_getD, List.getElem?_append_right]
theorem made_cases {l : List Nat} {i : Nat} {t : Int} (h : goalZ l i = some t) :
    (∃ a b, l = a ++ 84 :: 46 :: b ∧ madeL l ((i : Int), t) = a ++ 46 :: 84 :: b ∧ jumpZ ((i : Int), t) = false) ∨ (∃ a b, l = a ++ 84 :: 70 :: 46 :: b ∧ madeL l ((i : Int), t) = a ++ 46 :: 70 :: 84 :: b ∧ jumpZ ((i : Int), t) = true) ∨
    (∃ a b, l = a ++ 46 :: 70 :: b ∧ madeL l ((i : Int), t) = a ++ 70 :: 46 :: b ∧ jumpZ ((i : Int), t) = false) ∨ (∃ a b, l = a ++ 46 :: 84 :: 70 :: b ∧ madeL l ((i : Int), t) = a ++ 70 :: 84 :: 46 :: b ∧ jumpZ ((i : Int), t) = true) := by
  rcases goal_cases h with ⟨a, b, rfl, rfl, rfl⟩ | ⟨a, b, rfl, rfl, rfl⟩ | ⟨a, b, rfl, rfl, rfl⟩ | ⟨a, b, rfl, rfl, rfl⟩
  · refine .inl ⟨a, b, rfl, ?_, ?_⟩
    · have e := chN_mid a (84 :: 46 :: b) 0
      unfold madeL
      rw [show ((a.length : Int) + 1).toNat = a.length + 1 by omega, show ((a.length : Nat) : Int).toNat = a.length + 0 by omega, e]
      simp [List.set_append, chN]
    · unfold jumpZ; simp; omega
  · refine .inr (.inl ⟨a, b, rfl, ?_, ?_⟩)
    · have e := chN_mid a (84 :: 70 :: 46 :: b) 0
      unfold madeL
      rw [show ((a.length : Int) + 2).toNat = a.length + 2 by omega, show ((a.length : Nat) : Int).toNat = a.length + 0 by omega, e]
      simp [List.set_append, chN]
    · unfold jumpZ; simp; omega
  · refine .inr (.inr (.inl ⟨a, b, rfl, ?_, ?_⟩))
    · have e := chN_mid a (46 :: 70 :: b) 1
      unfold madeL
      rw [show ((a.length + 1 : Nat) : Int).toNat = a.length + 1 by omega, show ((a.length : Nat) : Int).toNat = a.length + 0 by omega, e]
      simp [List.set_append, chN]
    · unfold jumpZ; simp; omega
  · refine .inr (.inr (.inr ⟨a, b, rfl, ?_, ?_⟩))
    · have e := chN_mid a (46 :: 84 :: 70 :: b) 2
      unfold madeL
      rw [show ((a.length + 2 : Nat) : Int).toNat = a.length + 2 by omega, show ((a.length : Nat) : Int).toNat = a.length + 0 by omega, e]
      simp [List.set_append, chN]
    · unfold jumpZ; simp; omega
theorem lineB_made {l : List Nat} {i : Nat} {t : Int} (m : Nat) (h : goalZ l i = some t) : lineB (madeL l ((i : Int), t)) m = lineB l m := by
  rcases made_cases h with ⟨a, b, e1, e2, _⟩ | ⟨a, b, e1, e2, _⟩ | ⟨a, b, e1, e2, _⟩ | ⟨a, b, e1, e2, _⟩
  all_goals
    rw [e2, e1]
    unfold lineB
    simp [List.all_append, isSign]
theorem wayZ_made {l : List Nat} {i : Nat} {t : Int} (h : goalZ l i = some t) : wayZ (madeL l ((i : Int), t)) = wayZ l - (if jumpZ ((i : Int), t) = true then 2 else 1) := by
  rcases made_cases h with ⟨a, b, e1, e2, e3⟩ | ⟨a, b, e1, e2, e3⟩ | ⟨a, b, e1, e2, e3⟩ | ⟨a, b, e1, e2, e3⟩
  all_goals
    rw [e2, e3, e1]
    unfold wayZ
    rw [wayF_eq, wayF_eq]
    simp only [List.count_append, List.count_cons, List.length_append, List.length_cons, sumPos_append, sumPos]
    simp
    omega
theorem pairsZ_made {l : List Nat} {i : Nat} {t : Int} (h : goalZ l i = some t) : pairsZ (madeL l ((i : Int), t)) = pairsZ l - (if jumpZ ((i : Int), t) = true then 1 else 0) := by
  rcases made_cases h with ⟨a, b, e1, e2, e3⟩ | ⟨a, b, e1, e2, e3⟩ | ⟨a, b, e1, e2, e3⟩ | ⟨a, b, e1, e2, e3⟩
  all_goals
    rw [e2, e3, e1]
    unfold pairsZ
    rw [pairsF_append, pairsF_append]
    simp [pairsF]
  all_goals
    rw [pairsF_add]
    conv => rhs; rw [pairsF_add]
    omega
/- For the moves of a line, told by membership. -/
theorem mem_movesOf {l ks : List Nat} (hv : lineB l 12 = true) : movesOf l ks = movesL l ks := by unfold movesOf; rw [if_pos hv]
theorem mk_of_mem {l : List Nat} {m : Int × Int} (hv : lineB l 12 = true) (h : m ∈ movesL l TF) : mkOk l m = true := by
  obtain ⟨i, hi, hc, hg, h1⟩ := mem_movesL.1 h
  unfold mkOk
  rw [hv, show m = ((i : Int), m.2) by rw [← h1], canZ_at hi, hg]
  simp
theorem next_of_mem {l : List Nat} {m : Int × Int} (hv : lineB l 12 = true) (h : m ∈ movesL l TF) :
    lineB (madeL l m) 12 = true ∧ wayZ (madeL l m) = wayZ l - (if jumpZ m = true then 2 else 1) ∧ pairsZ (madeL l m) = pairsZ l - (if jumpZ m = true then 1 else 0) := by
  obtain ⟨i, hi, hc, hg, h1⟩ := mem_movesL.1 h
  rw [show m = ((i : Int), m.2) by rw [← h1]]
  exact ⟨(lineB_made 12 hg).trans hv, wayZ_made hg, pairsZ_made hg⟩
theorem mem_kind {l : List Nat} {m : Int × Int} (h : m ∈ movesL l TF) : ((movesL l [84]).contains m = decide (m.1 < m.2)) ∧ ((movesL l [70]).contains m = !decide (m.1 < m.2)) := by
  obtain ⟨i, hi, hc, hg, h1⟩ := mem_movesL.1 h
  have none_of : ∀ (k : Nat), chN l i ≠ k → (movesL l [k]).contains m = false := by
    intro k hk
    rw [Bool.eq_false_iff]
    intro hm
    obtain ⟨j, hj, hc2, hg2, h2⟩ := mem_movesL.1 (List.contains_iff_mem.1 hm)
    have : i = j := by omega
    subst this
    simp at hc2
    exact hk hc2
  have some_of : ∀ (k : Nat), chN l i = k → (movesL l [k]).contains m = true := by
    intro k hk
    rw [List.contains_iff_mem]
    exact mem_movesL.2 ⟨i, hi, by simp [hk], hg, h1⟩
  rcases goal_kind hg with ⟨hk, hlt⟩ | ⟨hk, hlt⟩
  · rw [some_of 84 hk, none_of 70 (by omega), decide_eq_true (by omega)]; exact ⟨rfl, rfl⟩
  · rw [some_of 70 hk, none_of 84 (by omega), decide_eq_false (by omega)]; exact ⟨rfl, rfl⟩
theorem made_length {l : List Nat} {m : Int × Int} : (madeL l m).length = l.length := by simp [madeL]
end Go.Proofs.YtemicglkmnjibaaGreatDoor
