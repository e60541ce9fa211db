/-
  What the reference's functions compute that count, add up and turn around (walks); no condition but on sizes.
-/
import Derived.Test.YtemicglkmnjibaaGreatDoorSpecD
import Derived.Test.YtemicglkmnjibaaGreatDoorWay
namespace Go.Proofs.YtemicglkmnjibaaGreatDoor
open Go.RowKit
set_option linter.unusedVariables false
set_option linter.unusedSimpArgs false
theorem count_take_succ {l : List Nat} {k : Nat} (h : k < l.length) (c : Nat) : (l.take (k + 1)).count c = (l.take k).count c + if chN l k = c then 1 else 0 := by
  rw [List.take_succ_eq_append_getElem h, List.count_append, chN_of_lt h, List.count_singleton]
  by_cases e : l[k] = c <;> simp [e]
set_option maxHeartbeats 1000000 in
theorem liCount_any (s : ByteArray) (c : Nat) (w : World) (hs : s.size ≤ 1000000) :
    Calls Tryz.prog 74 #[.string s, .int .u8 c] w fun e w' => e = .returned (.int .i64 ((bL s).count c : Nat)) ∧ w = w' := by
  have Hl := Lib.hid (bL_length s)
  go_enter Tryz.func74, Tryz.ntmps74
  go_wp2
  go_loop [5, 6] (fun n i => ∃ k m : Nat, k ≤ s.size ∧ m ≤ k ∧ i = .int .i64 k ∧ n = .int .i64 m ∧ Hid (((bL s).take k).count c = m))
    (fun _ i => s.size - (intOf i).toNat)
  case atStart => exact ⟨0, 0, Nat.zero_le _, Nat.le_refl _, rfl, rfl, rfl⟩
  case round =>
    obtain ⟨k, m, hk, hmk, rfl, rfl, HM⟩ := hrel
    by_cases hlt : k < s.size
    · have hc := chN_eq s hlt
      have hct := count_take_succ (l := bL s) (k := k) (by rw [Hl.out]; exact hlt) c
      rw [HM.out] at hct
      by_cases h1 : chN (bL s) k = c
      · have e1 : (chN (bL s) k == c) = true := beqTN h1
        rw [if_pos h1] at hct
        have Hc := Lib.hid hct
        clear hct h1 HM
        go_wp2
        go_round
        case rel => exact ⟨k + 1, m + 1, by omega, by omega, by go_num, by go_num, Hc⟩
        case measure => simp [intOf]; omega
      · have e1 : (chN (bL s) k == c) = false := beqFN h1
        rw [if_neg h1, Nat.add_zero] at hct
        have Hc := Lib.hid hct
        clear hct h1 HM
        go_wp2
        go_round
        case rel => exact ⟨k + 1, m, by omega, by omega, by go_num, rfl, Hc⟩
        case measure => simp [intOf]; omega
    · have hm := HM.out
      rw [List.take_of_length_le (by rw [Hl.out]; omega)] at hm
      have Hm := Lib.hid hm
      clear hm HM
      go_wp2
      go_ret
      exact ⟨ret_int (by rw [Hm.out]), rfl⟩
set_option maxHeartbeats 1000000 in
theorem liTimes_any (c n : Nat) (w : World) (hn : n ≤ 1000000) :
    Calls Tryz.prog 105 #[.string (bB [c]), .int .i64 n] w fun e w' => e = .returned (.string (bB (List.replicate n c))) ∧ w = w' := by
  go_enter Tryz.func105, Tryz.ntmps105
  go_wp2
  go_loop [1, 5] (fun m o => ∃ k : Nat, k ≤ n ∧ m = .int .i64 ((n : Int) - k) ∧ o = .string (bB (List.replicate k c)))
    (fun m _ => (intOf m).toNat)
  case atStart => exact ⟨0, Nat.zero_le _, by simp, rfl⟩
  case round =>
    obtain ⟨k, hk, rfl, rfl⟩ := hrel
    by_cases hlt : k < n
    · have hap : bB (List.replicate k c) ++ bB [c] = bB (List.replicate (k + 1) c) := by rw [bB_append, List.replicate_succ']
      have hsz := bB_size (List.replicate k c)
      rw [List.length_replicate] at hsz
      have hsz1 : (bB [c]).size = 1 := bB_size [c]
      have h0 : (0 : Int) < (n : Int) - k := by omega
      go_wp2
      go_round
      case rel => exact ⟨k + 1, by omega, by congr 1; omega, rfl⟩
      case measure => simp [intOf]; omega
    · have h0 : ¬ (0 : Int) < (n : Int) - k := by omega
      have hke : k = n := by omega
      have Hke := Lib.hid hke
      clear hke
      go_wp2
      go_ret
      exact ⟨by rw [Hke.out]; rfl, rfl⟩
set_option maxHeartbeats 1000000 in
theorem liLast_any (s : ByteArray) (w : World) (hs : s.size ≤ 1000000) :
    Calls Tryz.prog 77 #[.string s] w fun e w' => e = .returned (.string (bB (lastL (bL s)))) ∧ w = w' := by
  have h70 : (bL s).count 70 ≤ s.size := bL_length s ▸ List.count_le_length
  have h46 : (bL s).count 46 ≤ s.size := bL_length s ▸ List.count_le_length
  have h84 : (bL s).count 84 ≤ s.size := bL_length s ▸ List.count_le_length
  have c70 := fun W => liCount_any s 70 W hs
  have c46 := fun W => liCount_any s 46 W hs
  have c84 := fun W => liCount_any s 84 W hs
  have t70 := fun W => liTimes_any 70 ((bL s).count 70) W (by omega)
  have t46 := fun W => liTimes_any 46 ((bL s).count 46) W (by omega)
  have t84 := fun W => liTimes_any 84 ((bL s).count 84) W (by omega)
  have z70 := bB_size (List.replicate ((bL s).count 70) 70)
  have z46 := bB_size (List.replicate ((bL s).count 46) 46)
  have z84 := bB_size (List.replicate ((bL s).count 84) 84)
  rw [List.length_replicate] at z70 z46 z84
  have z1 := bB_size (List.replicate ((bL s).count 70) 70 ++ List.replicate ((bL s).count 46) 46)
  rw [List.length_append, List.length_replicate, List.length_replicate] at z1
  have a1 : bB (List.replicate ((bL s).count 70) 70) ++ bB (List.replicate ((bL s).count 46) 46) = bB (List.replicate ((bL s).count 70) 70 ++ List.replicate ((bL s).count 46) 46) := bB_append _ _
  have a2 : bB (List.replicate ((bL s).count 70) 70 ++ List.replicate ((bL s).count 46) 46) ++ bB (List.replicate ((bL s).count 84) 84) = bB (lastL (bL s)) := bB_append _ _
  have C70 := Lib.hid c70
  have C46 := Lib.hid c46
  have C84 := Lib.hid c84
  have T70 := Lib.hid t70
  have T46 := Lib.hid t46
  have T84 := Lib.hid t84
  clear c70 c46 c84 t70 t46 t84
  go_enter Tryz.func77, Tryz.ntmps77
  go_wp2_with fail
  refine (C70.out _).mono ?_; rintro e w' ⟨rfl, rfl⟩
  go_wp2_with fail
  refine (T70.out _).mono ?_; rintro e w' ⟨rfl, rfl⟩
  go_wp2_with fail
  refine (C46.out _).mono ?_; rintro e w' ⟨rfl, rfl⟩
  go_wp2_with fail
  refine (T46.out _).mono ?_; rintro e w' ⟨rfl, rfl⟩
  go_wp2_with fail
  refine (C84.out _).mono ?_; rintro e w' ⟨rfl, rfl⟩
  go_wp2_with fail
  refine (T84.out _).mono ?_; rintro e w' ⟨rfl, rfl⟩
  go_wp2_with fail
  go_ret
  exact ⟨rfl, rfl⟩
theorem sumPos_take_succ {l : List Nat} {k : Nat} (h : k < l.length) (c : Nat) : sumPos (l.take (k + 1)) c 0 = sumPos (l.take k) c 0 + if chN l k = c then (k : Int) else 0 := by
  rw [List.take_succ_eq_append_getElem h, sumPos_append, chN_of_lt h]
  have : (l.take k).length = k := by simp; omega
  rw [this]
  by_cases e : l[k] = c <;> simp [e, sumPos]
set_option maxHeartbeats 1000000 in
theorem liSum_any (s : ByteArray) (c : Nat) (w : World) (hs : s.size ≤ 1000000) :
    Calls Tryz.prog 93 #[.string s, .int .u8 c] w fun e w' => e = .returned (.int .i64 (sumPos (bL s) c 0)) ∧ w = w' := by
  have Hl := Lib.hid (bL_length s)
  go_enter Tryz.func93, Tryz.ntmps93
  go_wp2
  go_loop [5, 6] (fun n i => ∃ (k : Nat) (m : Int), k ≤ s.size ∧ 0 ≤ m ∧ m ≤ k * 1000000 ∧ i = .int .i64 k ∧ n = .int .i64 m ∧ Hid (sumPos ((bL s).take k) c 0 = m))
    (fun _ i => s.size - (intOf i).toNat)
  case atStart => exact ⟨0, 0, Nat.zero_le _, by omega, by omega, rfl, rfl, rfl⟩
  case round =>
    obtain ⟨k, m, hk, hm0, hmk, rfl, rfl, HM⟩ := hrel
    by_cases hlt : k < s.size
    · have hc := chN_eq s hlt
      have hct := sumPos_take_succ (l := bL s) (k := k) (by rw [Hl.out]; exact hlt) c
      rw [HM.out] at hct
      by_cases h1 : chN (bL s) k = c
      · have e1 : (chN (bL s) k == c) = true := beqTN h1
        rw [if_pos h1] at hct
        have Hc := Lib.hid hct
        clear hct h1 HM
        go_wp2
        go_round
        case rel => exact ⟨k + 1, m + k, by omega, by omega, by omega, by go_num, rfl, Hc⟩
        case measure => simp [intOf]; omega
      · have e1 : (chN (bL s) k == c) = false := beqFN h1
        rw [if_neg h1, Int.add_zero] at hct
        have Hc := Lib.hid hct
        clear hct h1 HM
        go_wp2
        go_round
        case rel => exact ⟨k + 1, m, by omega, by omega, by omega, by go_num, rfl, Hc⟩
        case measure => simp [intOf]; omega
    · have hm := HM.out
      rw [List.take_of_length_le (by rw [Hl.out]; omega)] at hm
      have Hm := Lib.hid hm
      clear hm HM
      go_wp2
      go_ret
      exact ⟨ret_int (by rw [Hm.out]), rfl⟩
theorem sumPos_bd (l : List Nat) (c : Nat) : ∀ i : Int, 0 ≤ i → i + l.length ≤ 1000000 → 0 ≤ sumPos l c i ∧ sumPos l c i ≤ l.length * 1000000 := by
  induction l with
  | nil => intro i _ _; simp [sumPos]
  | cons x r ih =>
    intro i h0 h1
    simp only [List.length_cons] at h1 ⊢
    have := ih (i + 1) (by omega) (by omega)
    unfold sumPos
    split <;> omega
set_option maxHeartbeats 1000000 in
theorem liWay_any (s : ByteArray) (w : World) (hs : s.size ≤ 1000) (hsg : ∀ c ∈ bL s, isSign c = true) :
    Calls Tryz.prog 57 #[.string s] w fun e w' => e = .returned (.int .i64 (wayZ (bL s))) ∧ w = w' := by
  have hl := bL_length s
  have hll := lastL_length hsg
  have hlb : bL (bB (lastL (bL s))) = lastL (bL s) := bL_bB (by
    intro x hx
    unfold lastL at hx
    simp only [List.mem_append, List.mem_replicate] at hx
    omega)
  have hz : (bB (lastL (bL s))).size = s.size := by rw [bB_size, hll, hl]
  have s1 := fun W => liSum_any (bB (lastL (bL s))) 84 W (by omega)
  have s2 := fun W => liSum_any s 84 W (by omega)
  have s3 := fun W => liSum_any s 70 W (by omega)
  have s4 := fun W => liSum_any (bB (lastL (bL s))) 70 W (by omega)
  rw [hlb] at s1 s4
  have d1 := sumPos_bd (lastL (bL s)) 84 0 (by omega) (by omega)
  have d2 := sumPos_bd (bL s) 84 0 (by omega) (by omega)
  have d3 := sumPos_bd (bL s) 70 0 (by omega) (by omega)
  have d4 := sumPos_bd (lastL (bL s)) 70 0 (by omega) (by omega)
  rw [hll, hl] at d1 d4
  rw [hl] at d2 d3
  obtain ⟨d1a, d1b⟩ := d1
  obtain ⟨d2a, d2b⟩ := d2
  obtain ⟨d3a, d3b⟩ := d3
  obtain ⟨d4a, d4b⟩ := d4
  have Hw := Lib.hid (wayS_eq hsg)
  have S1 := Lib.hid s1
  have S2 := Lib.hid s2
  have S3 := Lib.hid s3
  have S4 := Lib.hid s4
  clear s1 s2 s3 s4 hl hll hlb hz hsg
  go_enter Tryz.func57, Tryz.ntmps57
  go_wp2_with fail
  refine (liLast_any s _ (by omega)).mono ?_; rintro e w' ⟨rfl, rfl⟩
  go_wp2_with fail
  refine (S1.out _).mono ?_; rintro e w' ⟨rfl, rfl⟩
  go_wp2_with fail
  refine (S2.out _).mono ?_; rintro e w' ⟨rfl, rfl⟩
  go_wp2_with fail
  refine (S3.out _).mono ?_; rintro e w' ⟨rfl, rfl⟩
  go_wp2_with fail
  refine (S4.out _).mono ?_; rintro e w' ⟨rfl, rfl⟩
  go_wp2_with fail
  go_ret
  exact ⟨ret_int (by rw [← Hw.out]; rfl), rfl⟩
theorem specWayToGo_any (s : ByteArray) (w : World) (hs : s.size ≤ 140737488351232) :
    Calls Tryz.prog 14 #[.string s] w fun e w' => e = .returned (.tuple #[.int .i64 (wayOf (bL s)), .bool (lineB (bL s) 12)]) ∧ w = w' := by
  by_cases hv : lineB (bL s) 12 = true
  · have hsz := size_of_line hv
    have hm : wayOf (bL s) = wayZ (bL s) := by unfold wayOf; rw [if_pos hv]
    have hlw := fun W => liWay_any s W (by omega) (signs_of hv)
    have Hm := Lib.hid hm
    clear hm
    go_enter Tryz.func14, Tryz.ntmps14
    go_wp2_with (first | (go_at_call 54; refine (liGood_any s _ hs).mono ?_; rintro e w1 ⟨rfl, rfl⟩) | (go_at_call 57; refine (hlw _).mono ?_; rintro e w2 ⟨rfl, rfl⟩))
    go_ret2
    exact ⟨by rw [Hm.out, hv]; rfl, rfl⟩
  · have hf : lineB (bL s) 12 = false := by simpa using hv
    have hm : wayOf (bL s) = 0 := by unfold wayOf; rw [if_neg hv]
    have Hm := Lib.hid hm
    clear hm hv
    go_enter Tryz.func14, Tryz.ntmps14
    go_wp2_with (go_at_call 54; refine (liGood_any s _ hs).mono ?_; rintro e w1 ⟨rfl, rfl⟩)
    go_ret2
    exact ⟨by rw [Hm.out, hf]; rfl, rfl⟩
set_option maxHeartbeats 1000000 in
theorem liPairs_any (s : ByteArray) (w : World) (hs : s.size ≤ 1000000) :
    Calls Tryz.prog 59 #[.string s] w fun e w' => e = .returned (.int .i64 (pairsZ (bL s))) ∧ w = w' := by
  have hl := bL_length s
  go_enter Tryz.func59, Tryz.ntmps59
  go_wp2
  go_loop [3, 4, 5] (fun su t i => ∃ (k : Nat) (S T : Int), k ≤ s.size ∧ i = .int .i64 k ∧ su = .int .i64 S ∧ t = .int .i64 T ∧ 0 ≤ T ∧ T ≤ k ∧ 0 ≤ S ∧ S ≤ k * 1000000 ∧ Hid (pairsF ((bL s).drop k) T S = pairsZ (bL s)))
    (fun _ _ i => s.size - (intOf i).toNat)
  case atStart => exact ⟨0, 0, 0, Nat.zero_le _, rfl, rfl, rfl, by omega, by omega, by omega, by omega, rfl⟩
  case round =>
    obtain ⟨k, S, T, hk, rfl, rfl, rfl, hT0, hT1, hS0, hS1, HP⟩ := hrel
    by_cases hlt : k < s.size
    · have hc := chN_eq s hlt
      have hp := HP.out
      rw [drop_chN (by omega)] at hp
      clear HP hl
      by_cases h1 : chN (bL s) k = 84
      · rw [pairsF, if_pos h1] at hp
        have Hp := Lib.hid hp
        have e1 : ((chN (bL s) k : Int) == 84) = true := beqT (by omega)
        clear hp h1
        go_wp2
        go_round
        case rel => exact ⟨k + 1, S, T + 1, by omega, by go_num, rfl, rfl, by omega, by omega, by omega, by omega, Hp⟩
        case measure => simp [intOf]; omega
      · by_cases h2 : chN (bL s) k = 70
        · rw [pairsF, if_neg h1, if_pos h2] at hp
          have Hp := Lib.hid hp
          have e1 : ((chN (bL s) k : Int) == 84) = false := beqF (by omega)
          have e2 : ((chN (bL s) k : Int) == 70) = true := beqT (by omega)
          clear hp h1 h2
          go_wp2
          go_round
          case rel => exact ⟨k + 1, S + T, T, by omega, by go_num, rfl, rfl, by omega, by omega, by omega, by omega, Hp⟩
          case measure => simp [intOf]; omega
        · rw [pairsF, if_neg h1, if_neg h2] at hp
          have Hp := Lib.hid hp
          have e1 : ((chN (bL s) k : Int) == 84) = false := beqF (by omega)
          have e2 : ((chN (bL s) k : Int) == 70) = false := beqF (by omega)
          clear hp h1 h2
          go_wp2
          go_round
          case rel => exact ⟨k + 1, S, T, by omega, by go_num, rfl, rfl, by omega, by omega, by omega, by omega, Hp⟩
          case measure => simp [intOf]; omega
    · have hp := HP.out
      rw [List.drop_of_length_le (by omega), pairsF] at hp
      have Hp := Lib.hid hp
      clear HP hp hl
      go_wp2
      go_ret
      exact ⟨ret_int Hp.out, rfl⟩
theorem specPairsToPass_any (s : ByteArray) (w : World) (hs : s.size ≤ 140737488351232) :
    Calls Tryz.prog 16 #[.string s] w fun e w' => e = .returned (.tuple #[.int .i64 (pairsOf (bL s)), .bool (lineB (bL s) 12)]) ∧ w = w' := by
  by_cases hv : lineB (bL s) 12 = true
  · have hsz := size_of_line hv
    have hm : pairsOf (bL s) = pairsZ (bL s) := by unfold pairsOf; rw [if_pos hv]
    have Hm := Lib.hid hm
    clear hm
    go_enter Tryz.func16, Tryz.ntmps16
    go_wp2_with (first | (go_at_call 54; refine (liGood_any s _ hs).mono ?_; rintro e w1 ⟨rfl, rfl⟩) | (go_at_call 59; refine (liPairs_any s _ (by omega)).mono ?_; rintro e w2 ⟨rfl, rfl⟩))
    go_ret2
    exact ⟨by rw [Hm.out, hv]; rfl, rfl⟩
  · have hf : lineB (bL s) 12 = false := by simpa using hv
    have hm : pairsOf (bL s) = 0 := by unfold pairsOf; rw [if_neg hv]
    have Hm := Lib.hid hm
    clear hm hv
    go_enter Tryz.func16, Tryz.ntmps16
    go_wp2_with (go_at_call 54; refine (liGood_any s _ hs).mono ?_; rintro e w1 ⟨rfl, rfl⟩)
    go_ret2
    exact ⟨by rw [Hm.out, hf]; rfl, rfl⟩
theorem turned_step {l : List Nat} {j : Nat} (h : j < l.length) : turnedL (l.drop j) = turnedL (l.drop (j + 1)) ++ [otherN (chN l j)] := by
  unfold turnedL
  rw [drop_chN h, List.reverse_cons, List.map_append]; rfl
set_option maxHeartbeats 1000000 in
theorem liOther_any (s : ByteArray) (w : World) (hs : s.size ≤ 1000000) (hsg : ∀ c ∈ bL s, isSign c = true) :
    Calls Tryz.prog 62 #[.string s] w fun e w' => e = .returned (.string (bB (turnedL (bL s)))) ∧ w = w' := by
  have Hl := Lib.hid (bL_length s)
  go_enter Tryz.func62, Tryz.ntmps62
  go_wp2
  go_loop [3, 4] (fun o i => ∃ j : Nat, j ≤ s.size ∧ i = .int .i64 ((j : Int) - 1) ∧ o = .string (bB (turnedL ((bL s).drop j))))
    (fun _ i => (intOf i + 1).toNat)
  case atStart => exact ⟨s.size, Nat.le_refl _, rfl, by rw [List.drop_of_length_le (by rw [Hl.out]; omega)]; rfl⟩
  case round =>
    obtain ⟨j, hj, rfl, rfl⟩ := hrel
    by_cases h0 : 1 ≤ j
    · obtain ⟨i, rfl⟩ : ∃ i, j = i + 1 := ⟨j - 1, by omega⟩
      have hi : i < s.size := by omega
      have hil : i < (bL s).length := by rw [Hl.out]; exact hi
      have hc := chN_eq s hi
      have hcast : (((i + 1 : Nat) : Int) - 1) = (i : Int) := by omega
      rw [hcast]
      have hsz := bB_size (turnedL ((bL s).drop (i + 1)))
      have hle : (turnedL ((bL s).drop (i + 1))).length ≤ 1000000 := by unfold turnedL; rw [List.length_map, List.length_reverse, List.length_drop, Hl.out]; omega
      have hst := turned_step hil
      rcases isSign_iff.1 (hsg _ (by rw [chN_of_lt hil]; exact List.getElem_mem hil : chN (bL s) i ∈ bL s)) with h | h | h
      · have e1 : ((chN (bL s) i : Int) == 84) = true := beqT (by omega)
        rw [h] at hst
        have hap : bB (turnedL ((bL s).drop (i + 1))) ++ ⟨#[70]⟩ = bB (turnedL ((bL s).drop i)) := by rw [hst, show (⟨#[70]⟩ : ByteArray) = bB [70] from rfl, bB_append]; rfl
        clear h hst hcast
        go_wp2
        go_round
        case rel => exact ⟨i, by omega, rfl, rfl⟩
        case measure => simp [intOf]
      · have e1 : ((chN (bL s) i : Int) == 84) = false := beqF (by omega)
        have e2 : ((chN (bL s) i : Int) == 70) = true := beqT (by omega)
        rw [h] at hst
        have hap : bB (turnedL ((bL s).drop (i + 1))) ++ ⟨#[84]⟩ = bB (turnedL ((bL s).drop i)) := by rw [hst, show (⟨#[84]⟩ : ByteArray) = bB [84] from rfl, bB_append]; rfl
        clear h hst hcast
        go_wp2
        go_round
        case rel => exact ⟨i, by omega, rfl, rfl⟩
        case measure => simp [intOf]
      · have e1 : ((chN (bL s) i : Int) == 84) = false := beqF (by omega)
        have e2 : ((chN (bL s) i : Int) == 70) = false := beqF (by omega)
        rw [h] at hst
        have hap : bB (turnedL ((bL s).drop (i + 1))) ++ ⟨#[46]⟩ = bB (turnedL ((bL s).drop i)) := by rw [hst, show (⟨#[46]⟩ : ByteArray) = bB [46] from rfl, bB_append]; rfl
        clear h hst hcast
        go_wp2
        go_round
        case rel => exact ⟨i, by omega, rfl, rfl⟩
        case measure => simp [intOf]
    · have hj0 : j = 0 := by omega
      subst hj0
      go_wp2
      go_ret
      exact ⟨rfl, rfl⟩
theorem specOtherLine_any (s : ByteArray) (w : World) (hs : s.size ≤ 140737488351232) :
    Calls Tryz.prog 20 #[.string s] w fun e w' => e = .returned (.tuple #[.string (otherB (bL s)), .bool (lineB (bL s) 12)]) ∧ w = w' := by
  by_cases hv : lineB (bL s) 12 = true
  · have hsz := size_of_line hv
    have hm : otherB (bL s) = bB (turnedL (bL s)) := by unfold otherB; rw [if_pos hv]
    have hlo := fun W => liOther_any s W (by omega) (signs_of hv)
    have Hm := Lib.hid hm
    clear hm
    go_enter Tryz.func20, Tryz.ntmps20
    go_wp2_with (first | (go_at_call 54; refine (liGood_any s _ hs).mono ?_; rintro e w1 ⟨rfl, rfl⟩) | (go_at_call 62; refine (hlo _).mono ?_; rintro e w2 ⟨rfl, rfl⟩))
    go_ret2
    exact ⟨by rw [Hm.out, hv]; rfl, rfl⟩
  · have hf : lineB (bL s) 12 = false := by simpa using hv
    have hm : otherB (bL s) = ⟨#[]⟩ := by unfold otherB; rw [if_neg hv]
    have Hm := Lib.hid hm
    clear hm hv
    go_enter Tryz.func20, Tryz.ntmps20
    go_wp2_with (go_at_call 54; refine (liGood_any s _ hs).mono ?_; rintro e w1 ⟨rfl, rfl⟩)
    go_ret2
    exact ⟨by rw [Hm.out, hf]; rfl, rfl⟩
end Go.Proofs.YtemicglkmnjibaaGreatDoor
