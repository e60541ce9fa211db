/-
  What the reference's functions on moves of a line compute (walks); no condition but on sizes.
-/
import Derived.Test.YtemicglkmnjibaaGreatDoorSpecA
namespace Go.Proofs.YtemicglkmnjibaaGreatDoor
open Go.RowKit
set_option linter.unusedVariables false
set_option linter.unusedSimpArgs false
theorem goal84 {l : List Nat} {i : Nat} (h : chN l i = 84) : goalZ l i = if chN l (i + 1) = 46 then some ((i : Int) + 1) else if chN l (i + 1) = 70 ∧ chN l (i + 2) = 46 then some ((i : Int) + 2) else none := by
  unfold goalZ
  have e1 : atZ l ((i : Int) + 1) = chN l (i + 1) := atZ_nat l (i + 1)
  have e2 : atZ l ((i : Int) + 2 * 1) = chN l (i + 2) := atZ_nat l (i + 2)
  have e3 : stepZ 84 = 1 := rfl
  have e4 : otherN 84 = 70 := rfl
  rw [h, e3, e4, if_neg (by omega), e1, e2]; rfl
theorem goal70 {l : List Nat} {i : Nat} (h : chN l i = 70) : goalZ l i = if 1 ≤ i ∧ chN l (i - 1) = 46 then some ((i : Int) - 1) else if 2 ≤ i ∧ chN l (i - 1) = 84 ∧ chN l (i - 2) = 46 then some ((i : Int) - 2) else none := by
  unfold goalZ
  have e3 : stepZ 70 = -1 := rfl
  have e4 : otherN 70 = 84 := rfl
  rw [h, e3, e4, if_neg (by omega)]
  rcases Nat.lt_or_ge i 1 with h0 | h0
  · have : i = 0 := by omega
    subst this
    rw [atZ_neg (by omega), atZ_neg (by omega), if_neg (by omega), if_neg (by omega), if_neg (by omega), if_neg (by omega)]
  · have e1 : atZ l ((i : Int) + -1) = chN l (i - 1) := by rw [← atZ_nat]; congr 1; omega
    rw [e1]
    by_cases h46 : chN l (i - 1) = 46
    · rw [if_pos h46, if_pos ⟨h0, h46⟩]; congr 1
    · rw [if_neg h46, if_neg (c := 1 ≤ i ∧ chN l (i - 1) = 46) (fun h => h46 h.2)]
      rcases Nat.lt_or_ge i 2 with h2 | h2
      · have : i = 1 := by omega
        subst this
        rw [atZ_neg (i := ((1 : Nat) : Int) + 2 * -1) (by omega), if_neg (by omega), if_neg (by omega)]
      · have e2 : atZ l ((i : Int) + 2 * -1) = chN l (i - 2) := by rw [← atZ_nat]; congr 1; omega
        rw [e2]
        by_cases h3 : chN l (i - 1) = 84 ∧ chN l (i - 2) = 46
        · rw [if_pos h3, if_pos ⟨h2, h3⟩]; congr 1
        · rw [if_neg h3, if_neg (fun h => h3 h.2)]
theorem goal_none_of {l : List Nat} {i : Nat} (h1 : chN l i ≠ 84) (h2 : chN l i ≠ 70) : goalZ l i = none := by
  unfold goalZ stepZ
  rw [if_neg h1, if_neg h2, if_pos rfl]
theorem goal_land {l : List Nat} {i : Nat} {t : Int} (h : goalZ l i = some t) : atZ l t = 46 := by
  unfold goalZ at h
  split at h
  · cases h
  · split at h
    · rename_i h1 h2
      injection h with h; subst h; exact h2
    · split at h
      · rename_i h1 h2 h3
        injection h with h; subst h; exact h3.2
      · cases h
theorem can_land {l : List Nat} {f t : Int} (h : canZ l (f, t) = true) : atZ l t = 46 := goal_land (canZ_range h).2.2
theorem canZ_at {l : List Nat} {i : Nat} (h : i < l.length) (t : Int) : canZ l ((i : Int), t) = (goalZ l i == some t) := by
  unfold canZ
  rw [decide_eq_true (p := (0 : Int) ≤ ((i : Int), t).1) (by simp), decide_eq_true (p := ((i : Int), t).1 < (l.length : Int)) (by simpa using h)]
  rfl
theorem canZ_false {l : List Nat} {f t : Int} (h : ¬ (0 ≤ f ∧ f < l.length) ∨ atZ l t ≠ 46) : canZ l (f, t) = false := by
  rw [Bool.eq_false_iff]
  intro hc
  have hr := canZ_range hc
  rcases h with h | h
  · exact h ⟨hr.1, hr.2.1⟩
  · exact h (can_land hc)
set_option maxRecDepth 100000 in
set_option maxHeartbeats 4000000 in
theorem liCan_any (s : ByteArray) (f t : Int) (w : World) (hs : s.size ≤ 1000000) :
    Calls Tryz.prog 68 #[.string s, .agg #[.int .i64 f, .int .i64 t]] w fun e w' => e = .returned (.bool (canZ (bL s) (f, t))) ∧ Below w.heap.size w w' := by
  have hl := bL_length s
  by_cases h0 : 0 ≤ f ∧ f ≤ (s.size : Int) - 1
  · by_cases h1 : 0 ≤ t ∧ t ≤ (s.size : Int) - 1
    · obtain ⟨i, rfl⟩ := Int.eq_ofNat_of_zero_le h0.1
      obtain ⟨j, rfl⟩ := Int.eq_ofNat_of_zero_le h1.1
      have hi : i < s.size := by omega
      have hj : j < s.size := by omega
      have ci := chN_eq s hi
      have cj := chN_eq s hj
      by_cases h46 : chN (bL s) j = 46
      · have e46 : ((chN (bL s) j : Int) != 46) = false := bne_eq_false_iff_eq.2 (by omega)
        by_cases h84 : chN (bL s) i = 84
        · have e84 : ((chN (bL s) i : Int) == 84) = true := beqT (by omega)
          have hcz : canZ (bL s) ((i : Int), (j : Int)) = (decide (j = i + 1) || (decide (j = i + 2) && decide (chN (bL s) (i + 1) = 70))) := by
            rw [canZ_at (by omega), goal84 h84, Bool.eq_iff_iff]
            by_cases g1 : chN (bL s) (i + 1) = 46
            · rw [if_pos g1]; simp; constructor
              · intro h; left; omega
              · rintro (h | ⟨_, h⟩); omega; omega
            · rw [if_neg g1]
              by_cases g2 : chN (bL s) (i + 1) = 70 ∧ chN (bL s) (i + 2) = 46
              · rw [if_pos g2]; simp; constructor
                · intro h; right; exact ⟨by omega, g2.1⟩
                · rintro (h | ⟨h, _⟩)
                  · subst h; exact absurd h46 g1
                  · omega
              · rw [if_neg g2]; simp; constructor
                · intro h; subst h; exact g1 h46
                · intro h; subst h; exact fun h => g2 ⟨h, h46⟩
          have Hcz := Lib.hid hcz
          by_cases hA : j = i + 1
          · have eA : ((j : Int) == (i : Int) + 1) = true := beqT (by omega)
            have HA := Lib.hid hA
            clear hcz h46 h84 hl hA
            go_enter Tryz.func68, Tryz.ntmps68
            go_wp2_with (go_at_call 84; refine (l1In_true (by omega) _).mono ?_; rintro e w' ⟨rfl, rfl⟩)
            go_ret
            exact ⟨ret_bool (by rw [Hcz.out, decide_eq_true HA.out]; rfl), (Below.refl _ _).alloc (Nat.le_refl _) _⟩
          · have eA : ((j : Int) == (i : Int) + 1) = false := beqF (by omega)
            by_cases hB : j = i + 2
            · have eB : ((j : Int) == (i : Int) + 2) = true := beqT (by omega)
              have hi1 : i + 1 < s.size := by omega
              have ci1 := chN_eq s hi1
              have hb1 : (i : Int) + 1 < s.size := by omega
              have hfin : canZ (bL s) ((i : Int), (j : Int)) = ((chN (bL s) (i + 1) : Int) == 70) := by
                rw [hcz, decide_eq_false hA, decide_eq_true hB, Bool.eq_iff_iff]; simp; omega
              have Hfin := Lib.hid hfin
              clear hcz h46 h84 hl hA hB hfin Hcz
              go_enter Tryz.func68, Tryz.ntmps68
              go_wp2_with (go_at_call 84; refine (l1In_true (by omega) _).mono ?_; rintro e w' ⟨rfl, rfl⟩)
              go_ret
              exact ⟨ret_bool (by rw [Hfin.out]), (Below.refl _ _).alloc (Nat.le_refl _) _⟩
            · have eB : ((j : Int) == (i : Int) + 2) = false := beqF (by omega)
              have hfin : canZ (bL s) ((i : Int), (j : Int)) = false := by rw [hcz, decide_eq_false hA, decide_eq_false hB]; rfl
              have Hfin := Lib.hid hfin
              clear hcz h46 h84 hl hA hB hfin Hcz
              go_enter Tryz.func68, Tryz.ntmps68
              go_wp2_with (go_at_call 84; refine (l1In_true (by omega) _).mono ?_; rintro e w' ⟨rfl, rfl⟩)
              go_ret
              exact ⟨ret_bool (by rw [Hfin.out]), (Below.refl _ _).alloc (Nat.le_refl _) _⟩
        · have e84 : ((chN (bL s) i : Int) == 84) = false := beqF (by omega)
          by_cases h70 : chN (bL s) i = 70
          · have e70 : ((chN (bL s) i : Int) == 70) = true := beqT (by omega)
            have hcz : canZ (bL s) ((i : Int), (j : Int)) = (decide (i = j + 1) || (decide (i = j + 2) && decide (chN (bL s) (i - 1) = 84))) := by
              rw [canZ_at (by omega), goal70 h70, Bool.eq_iff_iff]
              by_cases g1 : 1 ≤ i ∧ chN (bL s) (i - 1) = 46
              · rw [if_pos g1]; simp; constructor
                · intro h; left; omega
                · rintro (h | ⟨_, h⟩); omega; omega
              · rw [if_neg g1]
                by_cases g2 : 2 ≤ i ∧ chN (bL s) (i - 1) = 84 ∧ chN (bL s) (i - 2) = 46
                · rw [if_pos g2]; simp; constructor
                  · intro h; right; exact ⟨by omega, g2.2.1⟩
                  · rintro (h | ⟨h, _⟩)
                    · subst h; exact absurd ⟨by omega, h46⟩ g1
                    · omega
                · rw [if_neg g2]; simp; constructor
                  · intro h; subst h; exact g1 ⟨by omega, h46⟩
                  · intro h; subst h; exact fun h => g2 ⟨by omega, h, h46⟩
            have Hcz := Lib.hid hcz
            by_cases hA : i = j + 1
            · have eA : ((j : Int) == (i : Int) + -1) = true := beqT (by omega)
              have HA := Lib.hid hA
              clear hcz h46 h84 hl h70 hA
              go_enter Tryz.func68, Tryz.ntmps68
              go_wp2_with (go_at_call 84; refine (l1In_true (by omega) _).mono ?_; rintro e w' ⟨rfl, rfl⟩)
              go_ret
              exact ⟨ret_bool (by rw [Hcz.out, decide_eq_true HA.out]; rfl), (Below.refl _ _).alloc (Nat.le_refl _) _⟩
            · by_cases hB : i = j + 2
              · have eA : ((j : Int) == (i : Int) + -1) = false := beqF (by omega)
                have eB : ((j : Int) == (i : Int) + -2) = true := beqT (by omega)
                have hi1 : i - 1 < s.size := by omega
                have ci1 := chN_eq s hi1
                have hb0 : 0 ≤ (i : Int) + -1 := by omega
                have hb1 : (i : Int) + -1 < s.size := by omega
                have hq : ((i : Int) + -1).toNat = i - 1 := by omega
                have hfin : canZ (bL s) ((i : Int), (j : Int)) = ((chN (bL s) (i - 1) : Int) == 84) := by
                  rw [hcz, decide_eq_false hA, decide_eq_true hB, Bool.eq_iff_iff]; simp; omega
                have Hfin := Lib.hid hfin
                clear hcz h46 h84 hl hA hB hfin Hcz h70
                go_enter Tryz.func68, Tryz.ntmps68
                go_wp2_with (go_at_call 84; refine (l1In_true (by omega) _).mono ?_; rintro e w' ⟨rfl, rfl⟩)
                go_ret
                exact ⟨ret_bool (by rw [Hfin.out]), (Below.refl _ _).alloc (Nat.le_refl _) _⟩
              · have eA : ((j : Int) == (i : Int) + -1) = false := beqF (by omega)
                have eA' : ((j : Int) == (i : Int) - 1) = false := beqF (by omega)
                have eB : ((j : Int) == (i : Int) + -2) = false := beqF (by omega)
                have eB' : ((j : Int) == (i : Int) - 2) = false := beqF (by omega)
                have hfin : canZ (bL s) ((i : Int), (j : Int)) = false := by rw [hcz, decide_eq_false hA, decide_eq_false hB]; rfl
                have Hfin := Lib.hid hfin
                clear hcz h46 h84 hl hA hB hfin Hcz h70
                go_enter Tryz.func68, Tryz.ntmps68
                go_wp2_with (go_at_call 84; refine (l1In_true (by omega) _).mono ?_; rintro e w' ⟨rfl, rfl⟩)
                go_ret
                exact ⟨ret_bool (by rw [Hfin.out]), (Below.refl _ _).alloc (Nat.le_refl _) _⟩
          · have e70 : ((chN (bL s) i : Int) == 70) = false := beqF (by omega)
            have hfin : canZ (bL s) ((i : Int), (j : Int)) = false := by rw [canZ_at (by omega), goal_none_of h84 h70]; rfl
            have Hfin := Lib.hid hfin
            clear h46 h84 hl h70 hfin
            go_enter Tryz.func68, Tryz.ntmps68
            go_wp2_with (go_at_call 84; refine (l1In_true (by omega) _).mono ?_; rintro e w' ⟨rfl, rfl⟩)
            go_ret
            exact ⟨ret_bool (by rw [Hfin.out]), (Below.refl _ _).alloc (Nat.le_refl _) _⟩
      · have e46 : ((chN (bL s) j : Int) != 46) = true := bne_iff_ne.2 (by omega)
        have hfin : canZ (bL s) ((i : Int), (j : Int)) = false := canZ_false (.inr (by rw [atZ_nat]; exact h46))
        have Hfin := Lib.hid hfin
        clear h46 hl hfin
        go_enter Tryz.func68, Tryz.ntmps68
        go_wp2_with (go_at_call 84; refine (l1In_true (by omega) _).mono ?_; rintro e w' ⟨rfl, rfl⟩)
        go_ret
        exact ⟨ret_bool (by rw [Hfin.out]), (Below.refl _ _).alloc (Nat.le_refl _) _⟩
    · have hfin : canZ (bL s) (f, t) = false := canZ_false (.inr (by
        rcases Int.lt_or_le t 0 with h | h
        · rw [atZ_neg h]; omega
        · rw [atZ_ge (by omega)]; omega))
      have Hfin := Lib.hid hfin
      clear hl hfin
      go_enter Tryz.func68, Tryz.ntmps68
      go_wp2_with fail
      refine (l1In_true (by omega) _).mono ?_
      rintro e w' ⟨rfl, rfl⟩
      go_wp2_with fail
      refine (l1In_false (by omega) _).mono ?_
      rintro e w' ⟨rfl, rfl⟩
      go_wp2_with fail
      go_ret
      exact ⟨ret_bool (by rw [Hfin.out]), (Below.refl _ _).alloc (Nat.le_refl _) _⟩
  · have hfin : canZ (bL s) (f, t) = false := canZ_false (.inl (by omega))
    have Hfin := Lib.hid hfin
    clear hl hfin
    go_enter Tryz.func68, Tryz.ntmps68
    go_wp2_with (go_at_call 84; refine (l1In_false (by omega) _).mono ?_; rintro e w' ⟨rfl, rfl⟩)
    go_ret
    exact ⟨ret_bool (by rw [Hfin.out]), (Below.refl _ _).alloc (Nat.le_refl _) _⟩
end Go.Proofs.YtemicglkmnjibaaGreatDoor
