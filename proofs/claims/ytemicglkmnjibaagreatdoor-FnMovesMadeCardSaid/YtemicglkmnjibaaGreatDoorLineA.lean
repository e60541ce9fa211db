/-
  What the small functions on lines compute (walks); no condition but that a text is no longer than the model lets it be.
-/
import Derived.Test.YtemicglkmnjibaaGreatDoorProg
import Derived.Test.YtemicglkmnjibaaGreatDoorModel1
import Derived.WalkKit
import Derived.WalkSpells
import Derived.WalkLawsBesides
import Derived.Deep.QuietTactic
import Derived.BigQuiet
import Derived.Lib.Hide
namespace Go.Proofs.YtemicglkmnjibaaGreatDoor
open Go.RowKit
set_option linter.unusedVariables false
set_option linter.unusedSimpArgs false
theorem within_any (x lo hi : Int) (w : World) :
    Calls Tryz.prog 80 #[.int .i64 x, .int .i64 lo, .int .i64 hi] w fun e w' => e = .returned (.bool (decide (lo ≤ x) && decide (x ≤ hi))) ∧ w = w' := by
  by_cases h : lo ≤ x
  all_goals
    go_enter Tryz.func80, Tryz.ntmps80
    go_wp2
    go_ret
    first
      | exact ⟨ret_bool (by rw [decide_eq_true h]; rfl), rfl⟩
      | exact ⟨ret_bool (by rw [decide_eq_false (Int.not_le.2 h)]; rfl), rfl⟩
theorem stepOf_any (c : Nat) (w : World) :
    Calls Tryz.prog 118 #[.int .u8 c] w fun e w' => e = .returned (.int .i64 (stepZ c)) ∧ w = w' := by
  by_cases h1 : c = 84
  · subst h1
    go_enter Tryz.func118, Tryz.ntmps118
    go_wp2
    go_ret
    exact ⟨rfl, rfl⟩
  · by_cases h2 : c = 70
    · subst h2
      go_enter Tryz.func118, Tryz.ntmps118
      go_wp2
      go_ret
      exact ⟨rfl, rfl⟩
    · have e1 : ((c : Int) == 84) = false := beqF (by omega)
      have e2 : ((c : Int) == 70) = false := beqF (by omega)
      go_enter Tryz.func118, Tryz.ntmps118
      go_wp2
      go_ret
      exact ⟨ret_int (by unfold stepZ; rw [if_neg h1, if_neg h2]), rfl⟩
theorem other_any (c : Nat) (w : World) :
    Calls Tryz.prog 95 #[.int .u8 c] w fun e w' => e = .returned (.int .u8 (otherN c)) ∧ w = w' := by
  by_cases h1 : c = 84
  · subst h1
    go_enter Tryz.func95, Tryz.ntmps95
    go_wp2
    go_ret
    exact ⟨rfl, rfl⟩
  · by_cases h2 : c = 70
    · subst h2
      go_enter Tryz.func95, Tryz.ntmps95
      go_wp2
      go_ret
      exact ⟨rfl, rfl⟩
    · have e1 : ((c : Int) == 84) = false := beqF (by omega)
      have e2 : ((c : Int) == 70) = false := beqF (by omega)
      go_enter Tryz.func95, Tryz.ntmps95
      go_wp2
      go_ret
      exact ⟨ret_int (by unfold otherN; rw [if_neg h1, if_neg h2]), rfl⟩
theorem at_any (s : ByteArray) (i : Int) (w : World) (hs : s.size ≤ 9223372036854775807) :
    Calls Tryz.prog 119 #[.string s, .int .i64 i] w fun e w' => e = .returned (.int .u8 (atZ (bL s) i)) ∧ w = w' := by
  by_cases h0 : 0 ≤ i
  · obtain ⟨k, rfl⟩ := Int.eq_ofNat_of_zero_le h0
    by_cases h1 : k < s.size
    · have hc := chN_eq s h1
      go_enter Tryz.func119, Tryz.ntmps119
      go_wp2
      go_ret
      exact ⟨ret_int (by rw [atZ_nat]), rfl⟩
    · go_enter Tryz.func119, Tryz.ntmps119
      go_wp2
      go_ret
      exact ⟨ret_int (by rw [atZ_nat, chN_ge (by rw [bL_length]; omega)]; rfl), rfl⟩
  · go_enter Tryz.func119, Tryz.ntmps119
    go_wp2
    go_ret
    exact ⟨ret_int (by rw [atZ_neg (by omega)]; rfl), rfl⟩
theorem stepZ_bd (c : Nat) : -1 ≤ stepZ c ∧ stepZ c ≤ 1 := by unfold stepZ; split; omega; split <;> omega
set_option maxHeartbeats 1000000 in
theorem goal_any (s : ByteArray) (i : Nat) (w : World) (hs : s.size ≤ 1000000) (hi : i < s.size) :
    Calls Tryz.prog 97 #[.string s, .int .i64 i] w fun e w' => e = .returned (.tuple #[.int .i64 ((goalZ (bL s) i).getD 0), .bool (goalZ (bL s) i).isSome]) ∧ ∃ n, w' = w.drewN n := by
  have hc := chN_eq s hi
  obtain ⟨b1, b2⟩ := stepZ_bd (chN (bL s) i)
  by_cases hd : stepZ (chN (bL s) i) = 0
  · have fin : goalZ (bL s) i = none := by unfold goalZ; rw [if_pos hd]
    have Hf := Lib.hid fin
    have hd' := beqT hd
    clear fin hd
    go_enter Tryz.func97, Tryz.ntmps97
    go_wp2_with (go_at_call 118; refine (stepOf_any _ _).mono ?_; rintro e w' ⟨rfl, rfl⟩)
    go_ret2
    exact ⟨ret_ib (by rw [Hf.out]; rfl) (by rw [Hf.out]; rfl), 0, rfl⟩
  · have hd' := beqF hd
    by_cases h1 : atZ (bL s) (i + stepZ (chN (bL s) i)) = 46
    · have fin : goalZ (bL s) i = some (i + stepZ (chN (bL s) i)) := by unfold goalZ; rw [if_neg hd, if_pos h1]
      have Hf := Lib.hid fin
      have h1' : ((atZ (bL s) (i + stepZ (chN (bL s) i)) : Int) == 46) = true := beqT (by omega)
      clear fin hd h1
      go_enter Tryz.func97, Tryz.ntmps97
      go_wp2_with (first | (go_at_call 118; refine (stepOf_any _ _).mono ?_; rintro e w' ⟨rfl, rfl⟩) | (go_at_call 119; refine (at_any _ _ _ (by omega)).mono ?_; rintro e w' ⟨rfl, rfl⟩))
      go_ret2
      exact ⟨ret_ib (by rw [Hf.out]; rfl) (by rw [Hf.out]; rfl), 0, rfl⟩
    · have h1' : ((atZ (bL s) (i + stepZ (chN (bL s) i)) : Int) == 46) = false := beqF (by omega)
      by_cases h2 : atZ (bL s) (i + stepZ (chN (bL s) i)) = otherN (chN (bL s) i)
      · have h2a := beqTN h2
        have h2b : ((atZ (bL s) (i + stepZ (chN (bL s) i)) : Int) == (otherN (chN (bL s) i) : Int)) = true := beqT (by omega)
        by_cases h3 : atZ (bL s) (i + 2 * stepZ (chN (bL s) i)) = 46
        · have fin : goalZ (bL s) i = some (i + 2 * stepZ (chN (bL s) i)) := by unfold goalZ; rw [if_neg hd, if_neg h1, if_pos ⟨h2, h3⟩]
          have Hf := Lib.hid fin
          have h3' : ((atZ (bL s) (i + 2 * stepZ (chN (bL s) i)) : Int) == 46) = true := beqT (by omega)
          clear fin hd h1 h2 h3
          go_enter Tryz.func97, Tryz.ntmps97
          go_wp2_with (first | (go_at_call 118; refine (stepOf_any _ _).mono ?_; rintro e w' ⟨rfl, rfl⟩) | (go_at_call 119; refine (at_any _ _ _ (by omega)).mono ?_; rintro e w' ⟨rfl, rfl⟩))
          go_quiet ((first | (go_at_call 119; exact quiet_eq fun W => at_any _ _ W (by omega)) | (go_at_call 95; exact quiet_eq fun W => other_any _ W)))
          go_wp2
          go_ret2
          exact ⟨ret_ib (by rw [Hf.out]; rfl) (by rw [Hf.out]; rfl), _, rfl⟩
        · have fin : goalZ (bL s) i = none := by unfold goalZ; rw [if_neg hd, if_neg h1, if_neg (fun h => h3 h.2)]
          have Hf := Lib.hid fin
          have h3' : ((atZ (bL s) (i + 2 * stepZ (chN (bL s) i)) : Int) == 46) = false := beqF (by omega)
          clear fin hd h1 h2 h3
          go_enter Tryz.func97, Tryz.ntmps97
          go_wp2_with (first | (go_at_call 118; refine (stepOf_any _ _).mono ?_; rintro e w' ⟨rfl, rfl⟩) | (go_at_call 119; refine (at_any _ _ _ (by omega)).mono ?_; rintro e w' ⟨rfl, rfl⟩))
          go_quiet ((first | (go_at_call 119; exact quiet_eq fun W => at_any _ _ W (by omega)) | (go_at_call 95; exact quiet_eq fun W => other_any _ W)))
          go_wp2
          go_ret2
          exact ⟨ret_ib (by rw [Hf.out]; rfl) (by rw [Hf.out]; rfl), _, rfl⟩
      · have fin : goalZ (bL s) i = none := by unfold goalZ; rw [if_neg hd, if_neg h1, if_neg (fun h => h2 h.1)]
        have Hf := Lib.hid fin
        have h2a := beqFN h2
        have h2b : ((atZ (bL s) (i + stepZ (chN (bL s) i)) : Int) == (otherN (chN (bL s) i) : Int)) = false := beqF (by omega)
        clear fin hd h1 h2
        go_enter Tryz.func97, Tryz.ntmps97
        go_wp2_with (first | (go_at_call 118; refine (stepOf_any _ _).mono ?_; rintro e w' ⟨rfl, rfl⟩) | (go_at_call 119; refine (at_any _ _ _ (by omega)).mono ?_; rintro e w' ⟨rfl, rfl⟩))
        go_quiet ((first | (go_at_call 119; exact quiet_eq fun W => at_any _ _ W (by omega)) | (go_at_call 95; exact quiet_eq fun W => other_any _ W)))
        go_wp2
        go_ret2
        exact ⟨ret_ib (by rw [Hf.out]; rfl) (by rw [Hf.out]; rfl), _, rfl⟩
theorem goal_none (s : ByteArray) (i : Nat) (w : World) (hs : s.size ≤ 1000000) (hi : i < s.size) (h : goalZ (bL s) i = none) :
    Calls Tryz.prog 97 #[.string s, .int .i64 i] w fun e w' => e = .returned (.tuple #[.int .i64 0, .bool false]) ∧ ∃ n, w' = w.drewN n := by
  have := goal_any s i w hs hi
  rw [h] at this
  exact this
theorem goal_some (s : ByteArray) (i : Nat) {t : Int} (w : World) (hs : s.size ≤ 1000000) (hi : i < s.size) (h : goalZ (bL s) i = some t) :
    Calls Tryz.prog 97 #[.string s, .int .i64 i] w fun e w' => e = .returned (.tuple #[.int .i64 t, .bool true]) ∧ ∃ n, w' = w.drewN n := by
  have := goal_any s i w hs hi
  rw [h] at this
  exact this
end Go.Proofs.YtemicglkmnjibaaGreatDoor
