/-
  Facts on lines and their moves; no program.
-/
import Derived.Test.YtemicglkmnjibaaGreatDoorSpecE
namespace Go.Proofs.YtemicglkmnjibaaGreatDoor
set_option linter.unusedVariables false
set_option linter.unusedSimpArgs false
theorem otherN_otherN (c : Nat) : otherN (otherN c) = c := by
  unfold otherN
  by_cases h1 : c = 84
  · subst h1; rfl
  · by_cases h2 : c = 70
    · subst h2; rfl
    · simp [h1, h2]
theorem otherN_inj {a b : Nat} (h : otherN a = otherN b) : a = b := by rw [← otherN_otherN a, h, otherN_otherN]
theorem otherN_46 {c : Nat} : otherN c = 46 ↔ c = 46 := ⟨fun h => otherN_inj (h.trans rfl), fun h => by rw [h]; rfl⟩
theorem stepZ_other (c : Nat) : stepZ (otherN c) = - stepZ c := by
  unfold stepZ otherN
  by_cases h1 : c = 84
  · subst h1; rfl
  · by_cases h2 : c = 70
    · subst h2; rfl
    · simp [h1, h2]
theorem turnedL_length (l : List Nat) : (turnedL l).length = l.length := by simp [turnedL]
theorem turned_turned (l : List Nat) : turnedL (turnedL l) = l := by
  unfold turnedL
  rw [← List.map_reverse, List.map_map]
  simp [Function.comp_def, otherN_otherN]
theorem lineB_turned (l : List Nat) (m : Nat) : lineB (turnedL l) m = lineB l m := by
  unfold lineB
  rw [turnedL_length]
  congr 1
  unfold turnedL
  rw [List.all_map, List.all_reverse]
  congr 1
  funext c
  show isSign (otherN c) = isSign c
  unfold isSign otherN
  by_cases h1 : c = 84
  · subst h1; rfl
  · by_cases h2 : c = 70
    · subst h2; rfl
    · simp [h1, h2]
theorem chN_map (l : List Nat) (p : Nat) : chN (l.map otherN) p = otherN (chN l p) := by
  rcases Nat.lt_or_ge p l.length with h | h
  · rw [chN_of_lt (by simpa using h), chN_of_lt h, List.getElem_map]
  · rw [chN_ge (by simpa using h), chN_ge h]; rfl
theorem chN_turned (l : List Nat) (p : Nat) (h : p < l.length) : chN (turnedL l) p = otherN (chN l (l.length - 1 - p)) := by
  unfold turnedL
  rw [chN_map, chN_reverse l p h]
theorem atZ_turned (l : List Nat) (j : Int) : atZ (turnedL l) ((l.length : Int) - 1 - j) = otherN (atZ l j) := by
  by_cases h0 : 0 ≤ j
  · by_cases h1 : j < l.length
    · obtain ⟨k, rfl⟩ := Int.eq_ofNat_of_zero_le h0
      rw [show (l.length : Int) - 1 - (k : Int) = ((l.length - 1 - k : Nat) : Int) by omega, atZ_nat, atZ_nat, chN_turned l _ (by omega)]
      congr 2; omega
    · rw [atZ_ge (l := l) (by omega), atZ_neg (by omega)]; rfl
  · rw [atZ_neg (i := j) (by omega), atZ_ge (by rw [turnedL_length]; omega)]; rfl
theorem goal_turned (l : List Nat) {i : Nat} (h : i < l.length) : goalZ (turnedL l) (l.length - 1 - i) = (goalZ l i).map fun t => (l.length : Int) - 1 - t := by
  have hc : chN (turnedL l) (l.length - 1 - i) = otherN (chN l i) := by rw [chN_turned l _ (by omega)]; congr 2; omega
  have e1 := atZ_turned l ((i : Int) + stepZ (chN l i))
  have e2 := atZ_turned l ((i : Int) + 2 * stepZ (chN l i))
  have h1 : ((l.length - 1 - i : Nat) : Int) + - stepZ (chN l i) = (l.length : Int) - 1 - ((i : Int) + stepZ (chN l i)) := by omega
  have h2 : ((l.length - 1 - i : Nat) : Int) + 2 * - stepZ (chN l i) = (l.length : Int) - 1 - ((i : Int) + 2 * stepZ (chN l i)) := by omega
  unfold goalZ
  rw [hc, stepZ_other, h1, h2, e1, e2]
  by_cases hs : stepZ (chN l i) = 0
  · rw [if_pos (by omega), if_pos hs]; rfl
  · rw [if_neg (by omega), if_neg hs]
    by_cases ha : atZ l ((i : Int) + stepZ (chN l i)) = 46
    · rw [if_pos (otherN_46.2 ha), if_pos ha]; rfl
    · rw [if_neg (fun h => ha (otherN_46.1 h)), if_neg ha]
      by_cases hb : atZ l ((i : Int) + stepZ (chN l i)) = otherN (chN l i) ∧ atZ l ((i : Int) + 2 * stepZ (chN l i)) = 46
      · rw [if_pos ⟨by rw [hb.1], otherN_46.2 hb.2⟩, if_pos hb]; rfl
      · rw [if_neg (fun h => hb ⟨otherN_inj h.1, otherN_46.1 h.2⟩), if_neg hb]; rfl
/- Membership. -/
theorem mem_movesL {l ks : List Nat} {m : Int × Int} : m ∈ movesL l ks ↔ ∃ i : Nat, i < l.length ∧ ks.contains (chN l i) = true ∧ goalZ l i = some m.2 ∧ m.1 = (i : Int) := by
  unfold movesL movesUpto
  rw [List.mem_filterMap]
  constructor
  · rintro ⟨i, hi, hm⟩
    refine ⟨i, List.mem_range.1 hi, ?_⟩
    unfold moveAt at hm
    split at hm
    · rename_i hc
      cases hg : goalZ l i with
      | none => rw [hg] at hm; cases hm
      | some t => rw [hg] at hm; injection hm with hm; subst hm; exact ⟨hc, rfl, rfl⟩
    · cases hm
  · rintro ⟨i, hi, hc, hg, h1⟩
    refine ⟨i, List.mem_range.2 hi, ?_⟩
    unfold moveAt
    rw [if_pos hc, hg]
    simp [← h1]
theorem goal_kind {l : List Nat} {i : Nat} {t : Int} (h : goalZ l i = some t) : (chN l i = 84 ∧ (i : Int) < t) ∨ (chN l i = 70 ∧ t < i) := by
  by_cases h1 : chN l i = 84
  · refine .inl ⟨h1, ?_⟩
    rw [goal84 h1] at h
    split at h
    · injection h with h; omega
    · split at h
      · injection h with h; omega
      · cases h
  · by_cases h2 : chN l i = 70
    · refine .inr ⟨h2, ?_⟩
      rw [goal70 h2] at h
      split at h
      · injection h with h; omega
      · split at h
        · injection h with h; omega
        · cases h
    · rw [goal_none_of h1 h2] at h; cases h
theorem movesUpto_split (l : List Nat) (k : Nat) : (movesUpto l TF k).length = (movesUpto l [84] k).length + (movesUpto l [70] k).length := by
  induction k with
  | zero => rfl
  | succ k ih =>
    rw [movesUpto_succ, movesUpto_succ, movesUpto_succ, List.length_append, List.length_append, List.length_append, ih]
    have : (moveAt l TF k).toList.length = (moveAt l [84] k).toList.length + (moveAt l [70] k).toList.length := by
      unfold moveAt TF
      by_cases h1 : chN l k = 84
      · rw [h1]; simp
      · by_cases h2 : chN l k = 70
        · rw [h2]; simp
        · simp [h1, h2]
    omega
theorem moves_split (l : List Nat) : (movesL l TF).length = (movesL l [84]).length + (movesL l [70]).length := movesUpto_split l _
/- The order. -/
theorem movesUpto_mem {l ks : List Nat} {k : Nat} {m : Int × Int} (h : m ∈ movesUpto l ks k) : m.1 < k := by
  unfold movesUpto at h
  rw [List.mem_filterMap] at h
  obtain ⟨i, hi, hm⟩ := h
  have hi := List.mem_range.1 hi
  unfold moveAt at hm
  split at hm
  · cases hg : goalZ l i with
    | none => rw [hg] at hm; cases hm
    | some t => rw [hg] at hm; injection hm with hm; subst hm; show (i : Int) < k; omega
  · cases hm
theorem moveAt_fst {l ks : List Nat} {k : Nat} {m : Int × Int} (h : m ∈ (moveAt l ks k).toList) : m.1 = k := by
  unfold moveAt at h
  split at h
  · cases hg : goalZ l k with
    | none => rw [hg] at h; simp at h
    | some t => rw [hg] at h; simp at h; rw [h]
  · simp at h
theorem movesUpto_rises (l ks : List Nat) (k : Nat) : (movesUpto l ks k).Pairwise fun a b => a.1 < b.1 := by
  induction k with
  | zero => simp [movesUpto]
  | succ k ih =>
    rw [movesUpto_succ, List.pairwise_append]
    refine ⟨ih, ?_, fun a ha b hb => ?_⟩
    · cases moveAt l ks k <;> simp
    · rw [moveAt_fst hb]; exact movesUpto_mem ha
theorem movesL_rises (l ks : List Nat) (j : Nat) (a b : Int × Int) (ha : (movesL l ks)[j]? = some a) (hb : (movesL l ks)[j + 1]? = some b) : a.1 < b.1 := by
  obtain ⟨h1, rfl⟩ := List.getElem?_eq_some_iff.1 ha
  obtain ⟨h2, rfl⟩ := List.getElem?_eq_some_iff.1 hb
  exact List.pairwise_iff_getElem.1 (movesUpto_rises l ks _) j (j + 1) h1 h2 (by omega)
/- The mirrored line has as many moves. -/
theorem movesUpto_count (l : List Nat) (k : Nat) : (movesUpto l TF k).length = (List.range k).countP fun i => (goalZ l i).isSome := by
  induction k with
  | zero => rfl
  | succ k ih =>
    rw [movesUpto_succ, List.length_append, ih, List.range_succ, List.countP_append]
    congr 1
    cases hg : goalZ l k with
    | none => unfold moveAt; rw [hg]; simp [hg]
    | some t =>
      have : TF.contains (chN l k) = true := by
        rcases goal_kind hg with h | h <;> rw [h.1] <;> rfl
      unfold moveAt; rw [if_pos this, hg]; simp [hg]
theorem range_mirror (n : Nat) : (List.range n).reverse = (List.range n).map fun i => n - 1 - i := by
  apply List.ext_getElem
  · simp
  · intro i h1 h2; simp
theorem countP_congr' {p q : Nat → Bool} (n : Nat) (h : ∀ i, i < n → p i = q i) : (List.range n).countP p = (List.range n).countP q := by
  apply List.countP_congr
  intro i hi
  rw [h i (List.mem_range.1 hi)]
theorem moves_turned (l : List Nat) : (movesL (turnedL l) TF).length = (movesL l TF).length := by
  unfold movesL
  rw [movesUpto_count, movesUpto_count, turnedL_length]
  have : (List.range l.length).countP (fun i => (goalZ l i).isSome) = (List.range l.length).reverse.countP (fun i => (goalZ (turnedL l) i).isSome) := by
    rw [range_mirror, List.countP_map]
    apply countP_congr'
    intro i hi
    show _ = (goalZ (turnedL l) (l.length - 1 - i)).isSome
    rw [goal_turned l hi]
    cases goalZ l i <;> rfl
  rw [this, List.countP_reverse]
theorem mem_turned {l : List Nat} {m : Int × Int} (h : m ∈ movesL l TF) : ((l.length : Int) - 1 - m.1, (l.length : Int) - 1 - m.2) ∈ movesL (turnedL l) TF := by
  obtain ⟨i, hi, hc, hg, h1⟩ := mem_movesL.1 h
  refine mem_movesL.2 ⟨l.length - 1 - i, by rw [turnedL_length]; omega, ?_, ?_, ?_⟩
  · have : chN (turnedL l) (l.length - 1 - i) = otherN (chN l i) := by rw [chN_turned l _ (by omega)]; congr 2; omega
    rw [this]
    rcases goal_kind hg with h | h <;> rw [h.1] <;> rfl
  · rw [goal_turned l hi, hg]; rfl
  · rw [h1]; show (l.length : Int) - 1 - (i : Int) = _; omega
/- The way. -/
theorem tri_eq (m : Nat) : ∀ a : Int, 2 * tri a m = m * (2 * a + m - 1) := by
  induction m with
  | zero => intro a; simp [tri]
  | succ m ih =>
    intro a
    have := ih (a + 1)
    rw [tri_succ]
    grind
theorem sumPos_shift (l : List Nat) (c : Nat) : ∀ i : Int, sumPos l c (i + 1) = sumPos l c i + l.count c := by
  induction l with
  | nil => intro i; simp [sumPos]
  | cons x r ih =>
    intro i
    rw [sumPos, sumPos, ih]
    by_cases h : x = c
    · subst h; rw [if_pos rfl, if_pos rfl, List.count_cons_self]; omega
    · rw [if_neg h, if_neg h, List.count_cons_of_ne h]; omega
theorem turnedL_cons (c : Nat) (r : List Nat) : turnedL (c :: r) = turnedL r ++ [otherN c] := by simp [turnedL]
theorem otherN_eq_iff (c d : Nat) : otherN c = otherN d ↔ c = d := ⟨otherN_inj, fun h => by rw [h]⟩
theorem count_turned (l : List Nat) (c : Nat) : (turnedL l).count (otherN c) = l.count c := by
  induction l with
  | nil => rfl
  | cons x r ih =>
    rw [turnedL_cons, List.count_append, ih]
    by_cases h : x = c
    · subst h; simp
    · have : ¬ otherN x = otherN c := fun e => h (otherN_inj e)
      rw [List.count_cons_of_ne h, List.count_cons_of_ne this]; simp
theorem sumPos_turned (l : List Nat) (c : Nat) : sumPos (turnedL l) (otherN c) 0 = l.count c * ((l.length : Int) - 1) - sumPos l c 0 := by
  induction l with
  | nil => simp [turnedL, sumPos]
  | cons x r ih =>
    rw [turnedL_cons, sumPos_append, ih, sumPos, sumPos, sumPos, turnedL_length]
    have hs := sumPos_shift r c 0
    rw [hs]
    by_cases h : x = c
    · subst h; rw [if_pos rfl, if_pos rfl, List.count_cons_self, List.length_cons]; grind
    · rw [if_neg (fun e => h (otherN_inj e)), if_neg h, List.count_cons_of_ne h, List.length_cons]; grind
theorem wayZ_turned (l : List Nat) : wayZ (turnedL l) = wayZ l := by
  unfold wayZ
  rw [wayF_eq, wayF_eq, turnedL_length]
  have c1 : (turnedL l).count 84 = l.count 70 := count_turned l 70
  have c2 : (turnedL l).count 70 = l.count 84 := count_turned l 84
  have s1 : sumPos (turnedL l) 84 0 = l.count 70 * ((l.length : Int) - 1) - sumPos l 70 0 := sumPos_turned l 70
  have s2 : sumPos (turnedL l) 70 0 = l.count 84 * ((l.length : Int) - 1) - sumPos l 84 0 := sumPos_turned l 84
  rw [c1, c2, s1, s2]
  have t1 := tri_eq (l.count 70) ((l.length : Int) - l.count 70)
  have t2 := tri_eq (l.count 84) ((l.length : Int) - l.count 84)
  have t3 := tri_eq (l.count 70) 0
  have t4 := tri_eq (l.count 84) 0
  grind
theorem wayF_ge (l : List Nat) : ∀ i t f s : Int, t = i + l.length - l.count 84 → f ≤ i → s ≤ wayF l i t f s := by
  induction l with
  | nil => intro i t f s h1 h2; exact Int.le_refl _
  | cons c r ih =>
    intro i t f s h1 h2
    have hc := List.count_le_length (a := 84) (l := r)
    unfold wayF
    rw [List.length_cons] at h1
    by_cases e1 : c = 84
    · subst e1
      rw [List.count_cons_self] at h1
      rw [if_pos rfl]
      have := ih (i + 1) (t + 1) f (s + (t - i)) (by omega) (by omega)
      omega
    · rw [List.count_cons_of_ne e1] at h1
      rw [if_neg e1]
      by_cases e2 : c = 70
      · rw [if_pos e2]
        have := ih (i + 1) t (f + 1) (s + (i - f)) (by omega) (by omega)
        omega
      · rw [if_neg e2]
        exact ih (i + 1) t f s (by omega) (by omega)
theorem wayZ_ge (l : List Nat) : 0 ≤ wayZ l := wayF_ge l _ _ _ _ (by omega) (Int.le_refl _)
theorem pairsF_add (l : List Nat) : ∀ t s : Int, pairsF l t s = s + pairsF l t 0 := by
  induction l with
  | nil => intro t s; simp [pairsF]
  | cons c r ih =>
    intro t s
    unfold pairsF
    split
    · exact ih _ _
    · split
      · rw [ih t (s + t), ih t (0 + t)]; omega
      · exact ih _ _
theorem pairsF_ge (l : List Nat) : ∀ t s : Int, 0 ≤ t → s ≤ pairsF l t s := by
  induction l with
  | nil => intro t s h; exact Int.le_refl _
  | cons c r ih =>
    intro t s h
    unfold pairsF
    split
    · exact ih _ _ (by omega)
    · split
      · exact Int.le_trans (by omega) (ih t (s + t) h)
      · exact ih _ _ h
theorem pairsZ_ge (l : List Nat) : 0 ≤ pairsZ l := pairsF_ge l 0 0 (Int.le_refl _)
theorem pairsF_append (a b : List Nat) : ∀ t s : Int, pairsF (a ++ b) t s = pairsF b (t + a.count 84) (pairsF a t s) := by
  induction a with
  | nil => intro t s; simp [pairsF]
  | cons c r ih =>
    intro t s
    rw [List.cons_append, pairsF, pairsF]
    by_cases e1 : c = 84
    · subst e1; rw [if_pos rfl, if_pos rfl, ih, List.count_cons_self]; congr 1; omega
    · rw [if_neg e1, if_neg e1, List.count_cons_of_ne e1]
      by_cases e2 : c = 70
      · rw [if_pos e2, if_pos e2, ih]
      · rw [if_neg e2, if_neg e2, ih]
end Go.Proofs.YtemicglkmnjibaaGreatDoor
