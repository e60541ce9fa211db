/-
  What the functions on lines compute that go through all letters (walks); no condition but on sizes.
-/
import Derived.Test.YtemicglkmnjibaaGreatDoorLineE
namespace Go.Proofs.YtemicglkmnjibaaGreatDoor
open Go.RowKit
set_option linter.unusedVariables false
set_option linter.unusedSimpArgs false
set_option maxHeartbeats 1000000 in
theorem pairs_any (s : ByteArray) (w : World) (hs : s.size ≤ 1000000) :
    Calls Tryz.prog 58 #[.string s] w fun e w' => e = .returned (.int .i64 (pairsZ (bL s))) ∧ w = w' := by
  have hl := bL_length s
  go_enter Tryz.func58, Tryz.ntmps58
  go_wp2
  go_loop [3, 4, 8] (fun su t i => ∃ (k : Nat) (S T : Int), k ≤ s.size ∧ i = .int .i64 k ∧ su = .int .i64 S ∧ t = .int .i64 T ∧ 0 ≤ T ∧ T ≤ k ∧ 0 ≤ S ∧ S ≤ k * 1000000 ∧ Hid (pairsF ((bL s).drop k) T S = pairsZ (bL s)))
    (fun _ _ i => s.size - (intOf i).toNat)
  case atStart => exact ⟨0, 0, 0, Nat.zero_le _, rfl, rfl, rfl, by omega, by omega, by omega, by omega, rfl⟩
  case round =>
    obtain ⟨k, S, T, hk, rfl, rfl, rfl, hT0, hT1, hS0, hS1, HP⟩ := hrel
    by_cases hlt : k < s.size
    · have hc := chN_eq s hlt
      have hp := HP.out
      rw [drop_chN (by omega)] at hp
      clear HP hl
      by_cases h1 : chN (bL s) k = 84
      · rw [pairsF, if_pos h1] at hp
        have Hp := Lib.hid hp
        have e1 : ((chN (bL s) k : Int) == 84) = true := beqT (by omega)
        clear hp h1
        go_wp2
        go_round
        case rel => exact ⟨k + 1, S, T + 1, by omega, by go_num, rfl, rfl, by omega, by omega, by omega, by omega, Hp⟩
        case measure => simp [intOf]; omega
      · by_cases h2 : chN (bL s) k = 70
        · rw [pairsF, if_neg h1, if_pos h2] at hp
          have Hp := Lib.hid hp
          have e1 : ((chN (bL s) k : Int) == 84) = false := beqF (by omega)
          have e2 : ((chN (bL s) k : Int) == 70) = true := beqT (by omega)
          clear hp h1 h2
          go_wp2
          go_round
          case rel => exact ⟨k + 1, S + T, T, by omega, by go_num, rfl, rfl, by omega, by omega, by omega, by omega, Hp⟩
          case measure => simp [intOf]; omega
        · rw [pairsF, if_neg h1, if_neg h2] at hp
          have Hp := Lib.hid hp
          have e1 : ((chN (bL s) k : Int) == 84) = false := beqF (by omega)
          have e2 : ((chN (bL s) k : Int) == 70) = false := beqF (by omega)
          clear hp h1 h2
          go_wp2
          go_round
          case rel => exact ⟨k + 1, S, T, by omega, by go_num, rfl, rfl, by omega, by omega, by omega, by omega, Hp⟩
          case measure => simp [intOf]; omega
    · have hp := HP.out
      rw [List.drop_of_length_le (by omega), pairsF] at hp
      have Hp := Lib.hid hp
      clear HP hp hl
      go_wp2
      go_ret
      exact ⟨ret_int Hp.out, rfl⟩
set_option maxHeartbeats 1000000 in
theorem way_any (s : ByteArray) (w : World) (hs : s.size ≤ 1000000) :
    Calls Tryz.prog 56 #[.string s] w fun e w' => e = .returned (.int .i64 (wayZ (bL s))) ∧ w = w' := by
  have hl := bL_length s
  have hcn : (bL s).count 84 ≤ s.size := hl ▸ List.count_le_length
  go_enter Tryz.func56, Tryz.ntmps56
  go_wp2_with (go_at_call 71; refine (count_any s _).mono ?_; rintro e w' ⟨rfl, rfl⟩)
  go_loop [6, 7, 8, 22] (fun su t f i => ∃ (k : Nat) (S T F : Int), k ≤ s.size ∧ i = .int .i64 k ∧ su = .int .i64 S ∧ t = .int .i64 T ∧ f = .int .i64 F ∧ 0 ≤ T ∧ T ≤ s.size + k ∧ 0 ≤ F ∧ F ≤ k ∧ -(k * 2000000 : Int) ≤ S ∧ S ≤ k * 2000000 ∧ Hid (wayF ((bL s).drop k) k T F S = wayZ (bL s)))
    (fun _ _ _ i => s.size - (intOf i).toNat)
  case atStart => exact ⟨0, 0, (s.size : Int) - ((bL s).count 84 : Nat), 0, Nat.zero_le _, rfl, rfl, rfl, rfl, by omega, by omega, by omega, by omega, by omega, by omega, by rw [← hl]; rfl⟩
  case round =>
    obtain ⟨k, S, T, F, hk, rfl, rfl, rfl, rfl, hT0, hT1, hF0, hF1, hS0, hS1, HP⟩ := hrel
    by_cases hlt : k < s.size
    · have hc := chN_eq s hlt
      have hp := HP.out
      rw [drop_chN (by omega)] at hp
      clear HP hl hcn
      by_cases h1 : chN (bL s) k = 84
      · rw [wayF, if_pos h1] at hp
        have Hp := Lib.hid hp
        have e1 : ((chN (bL s) k : Int) == 84) = true := beqT (by omega)
        clear hp h1
        go_wp2
        go_round
        case rel => exact ⟨k + 1, S + (T - k), T + 1, F, by omega, by go_num, rfl, rfl, rfl, by omega, by omega, by omega, by omega, by omega, by omega, Hp⟩
        case measure => simp [intOf]; omega
      · by_cases h2 : chN (bL s) k = 70
        · rw [wayF, if_neg h1, if_pos h2] at hp
          have Hp := Lib.hid hp
          have e1 : ((chN (bL s) k : Int) == 84) = false := beqF (by omega)
          have e2 : ((chN (bL s) k : Int) == 70) = true := beqT (by omega)
          clear hp h1 h2
          go_wp2
          go_round
          case rel => exact ⟨k + 1, S + (k - F), T, F + 1, by omega, by go_num, rfl, rfl, rfl, by omega, by omega, by omega, by omega, by omega, by omega, Hp⟩
          case measure => simp [intOf]; omega
        · rw [wayF, if_neg h1, if_neg h2] at hp
          have Hp := Lib.hid hp
          have e1 : ((chN (bL s) k : Int) == 84) = false := beqF (by omega)
          have e2 : ((chN (bL s) k : Int) == 70) = false := beqF (by omega)
          clear hp h1 h2
          go_wp2
          go_round
          case rel => exact ⟨k + 1, S, T, F, by omega, by go_num, rfl, rfl, rfl, by omega, by omega, by omega, by omega, by omega, by omega, Hp⟩
          case measure => simp [intOf]; omega
    · have hp := HP.out
      rw [List.drop_of_length_le (by omega), wayF] at hp
      have Hp := Lib.hid hp
      clear HP hp hl hcn
      go_wp2
      go_ret
      exact ⟨ret_int Hp.out, rfl⟩
theorem WayToGo_any (s : ByteArray) (w : World) (hs : s.size ≤ 140737488351232) :
    Calls Tryz.prog 13 #[.string s] w fun e w' => e = .returned (.tuple #[.int .i64 (wayOf (bL s)), .bool (lineB (bL s) 12)]) ∧ Below w.heap.size w w' := by
  by_cases hv : lineB (bL s) 12 = true
  · have hsz := size_of_line hv
    have hm : wayOf (bL s) = wayZ (bL s) := by unfold wayOf; rw [if_pos hv]
    have Hm := Lib.hid hm
    clear hm
    go_enter Tryz.func13, Tryz.ntmps13
    go_wp2_with (first | (go_at_call 22; refine (IsLine_any s _ hs).mono ?_; rintro e w1 ⟨rfl, hb1⟩) | (go_at_call 56; refine (way_any s _ (by omega)).mono ?_; rintro e w2 ⟨rfl, rfl⟩))
    go_ret2
    exact ⟨by rw [Hm.out, hv]; rfl, hb1⟩
  · have hf : lineB (bL s) 12 = false := by simpa using hv
    have hm : wayOf (bL s) = 0 := by unfold wayOf; rw [if_neg hv]
    have Hm := Lib.hid hm
    clear hm hv
    go_enter Tryz.func13, Tryz.ntmps13
    go_wp2_with (go_at_call 22; refine (IsLine_any s _ hs).mono ?_; rintro e w1 ⟨rfl, hb1⟩)
    go_ret2
    exact ⟨by rw [Hm.out, hf]; rfl, hb1⟩
theorem PairsToPass_any (s : ByteArray) (w : World) (hs : s.size ≤ 140737488351232) :
    Calls Tryz.prog 15 #[.string s] w fun e w' => e = .returned (.tuple #[.int .i64 (pairsOf (bL s)), .bool (lineB (bL s) 12)]) ∧ Below w.heap.size w w' := by
  by_cases hv : lineB (bL s) 12 = true
  · have hsz := size_of_line hv
    have hm : pairsOf (bL s) = pairsZ (bL s) := by unfold pairsOf; rw [if_pos hv]
    have Hm := Lib.hid hm
    clear hm
    go_enter Tryz.func15, Tryz.ntmps15
    go_wp2_with (first | (go_at_call 22; refine (IsLine_any s _ hs).mono ?_; rintro e w1 ⟨rfl, hb1⟩) | (go_at_call 58; refine (pairs_any s _ (by omega)).mono ?_; rintro e w2 ⟨rfl, rfl⟩))
    go_ret2
    exact ⟨by rw [Hm.out, hv]; rfl, hb1⟩
  · have hf : lineB (bL s) 12 = false := by simpa using hv
    have hm : pairsOf (bL s) = 0 := by unfold pairsOf; rw [if_neg hv]
    have Hm := Lib.hid hm
    clear hm hv
    go_enter Tryz.func15, Tryz.ntmps15
    go_wp2_with (go_at_call 22; refine (IsLine_any s _ hs).mono ?_; rintro e w1 ⟨rfl, hb1⟩)
    go_ret2
    exact ⟨by rw [Hm.out, hf]; rfl, hb1⟩
theorem IsBlocked_any (s : ByteArray) (w : World) (hs : s.size ≤ 140737488351232) :
    Calls Tryz.prog 17 #[.string s] w fun e w' => e = .returned (.tuple #[.bool (lineB (bL s) 12 && blockedZ (bL s)), .bool (lineB (bL s) 12)]) ∧ Below w.heap.size w w' := by
  by_cases hv : lineB (bL s) 12 = true
  · have hsz := size_of_line hv
    go_enter Tryz.func17, Tryz.ntmps17
    go_wp2_with (first | (go_at_call 22; refine (IsLine_any s _ hs).mono ?_; rintro e w1 ⟨rfl, hb1⟩) | (go_at_call 60; refine (isBlocked_any s _ (by omega)).mono ?_; rintro e w2 ⟨rfl, hb2⟩))
    go_ret2
    exact ⟨by rw [hv]; rfl, bel_trans hb1 hb2⟩
  · have hf : lineB (bL s) 12 = false := by simpa using hv
    clear hv
    go_enter Tryz.func17, Tryz.ntmps17
    go_wp2_with (go_at_call 22; refine (IsLine_any s _ hs).mono ?_; rintro e w1 ⟨rfl, hb1⟩)
    go_ret2
    exact ⟨by rw [hf]; rfl, hb1⟩
end Go.Proofs.YtemicglkmnjibaaGreatDoor
