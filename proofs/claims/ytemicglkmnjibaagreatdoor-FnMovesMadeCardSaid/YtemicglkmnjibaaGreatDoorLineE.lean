/-
  What more functions on lines compute (walks); no condition but on sizes.
-/
import Derived.Test.YtemicglkmnjibaaGreatDoorLineD
namespace Go.Proofs.YtemicglkmnjibaaGreatDoor
open Go.RowKit
set_option linter.unusedVariables false
set_option linter.unusedSimpArgs false
set_option maxHeartbeats 1000000 in
theorem MakeMove_any (s : ByteArray) (f t : Int) (w : World) (hs : s.size ≤ 140737488351232) :
    Calls Tryz.prog 26 #[.string s, .agg #[.int .i64 f, .int .i64 t]] w fun e w' => e = .returned (.tuple #[.string (madeB (bL s) (f, t)), .bool (mkOk (bL s) (f, t))]) ∧ Below w.heap.size w w' := by
  by_cases hv : lineB (bL s) 12 = true
  · have hsz := size_of_line hv
    by_cases hc : canZ (bL s) (f, t) = true
    · have hm : mkOk (bL s) (f, t) = true := by unfold mkOk; rw [hv, hc]; rfl
      have hmd : madeB (bL s) (f, t) = bB (madeL (bL s) (f, t)) := by unfold madeB; rw [if_pos hm]
      obtain ⟨r0, r1, hg⟩ := canZ_range hc
      obtain ⟨q0, q1⟩ := goalZ_range hg
      rw [bL_length] at r1 q1
      obtain ⟨i, rfl⟩ := Int.eq_ofNat_of_zero_le r0
      obtain ⟨j, rfl⟩ := Int.eq_ofNat_of_zero_le q0
      have Hm := Lib.hid hm
      have Hmd := Lib.hid hmd
      clear hm hmd hg
      go_enter Tryz.func26, Tryz.ntmps26
      go_wp2_with (first
        | (go_at_call 22; refine (IsLine_any s _ hs).mono ?_; rintro e w1 ⟨rfl, hb1⟩; obtain ⟨m0, m1⟩ := box2 hb1)
        | (go_at_call 64; refine (can_any s i j _ (by omega)).mono ?_; rintro e w2 ⟨rfl, hb2⟩; have m2 := pw_cell_below hb2 m0; have m3 := pw_cell_below hb2 m1)
        | (go_at_call 65; refine (made_any s i j _ (by omega) (by omega) (by omega)).mono ?_; rintro e w3 ⟨rfl, hb3⟩))
      go_ret2
      exact ⟨by rw [Hm.out, Hmd.out]; rfl, bel_trans (bel_trans (bel_box hb1) hb2) hb3⟩
    · have hcf : canZ (bL s) (f, t) = false := by simpa using hc
      have hm : mkOk (bL s) (f, t) = false := by unfold mkOk; rw [hv, hcf]; rfl
      have hmd : madeB (bL s) (f, t) = ⟨#[]⟩ := by unfold madeB; rw [if_neg (by rw [hm]; simp)]
      have Hm := Lib.hid hm
      have Hmd := Lib.hid hmd
      clear hm hmd hc
      go_enter Tryz.func26, Tryz.ntmps26
      go_wp2_with (first
        | (go_at_call 22; refine (IsLine_any s _ hs).mono ?_; rintro e w1 ⟨rfl, hb1⟩; obtain ⟨m0, m1⟩ := box2 hb1)
        | (go_at_call 64; refine (can_any s f t _ (by omega)).mono ?_; rintro e w2 ⟨rfl, hb2⟩))
      go_ret2
      exact ⟨by rw [Hm.out, Hmd.out]; rfl, bel_trans (bel_box hb1) hb2⟩
  · have hf : lineB (bL s) 12 = false := by simpa using hv
    have hm : mkOk (bL s) (f, t) = false := by unfold mkOk; rw [hf]; rfl
    have hmd : madeB (bL s) (f, t) = ⟨#[]⟩ := by unfold madeB; rw [if_neg (by rw [hm]; simp)]
    have Hm := Lib.hid hm
    have Hmd := Lib.hid hmd
    clear hm hv hmd
    go_enter Tryz.func26, Tryz.ntmps26
    go_wp2_with (go_at_call 22; refine (IsLine_any s _ hs).mono ?_; rintro e w1 ⟨rfl, hb1⟩)
    go_ret2
    exact ⟨by rw [Hm.out, Hmd.out]; rfl, bel_box hb1⟩
set_option maxHeartbeats 1000000 in
theorem IsJump_any (s : ByteArray) (f t : Int) (w : World) (hs : s.size ≤ 140737488351232) :
    Calls Tryz.prog 27 #[.string s, .agg #[.int .i64 f, .int .i64 t]] w fun e w' => e = .returned (.tuple #[.bool (mkOk (bL s) (f, t) && jumpZ (f, t)), .bool (mkOk (bL s) (f, t))]) ∧ Below w.heap.size w w' := by
  by_cases hv : lineB (bL s) 12 = true
  · have hsz := size_of_line hv
    by_cases hc : canZ (bL s) (f, t) = true
    · have hm : mkOk (bL s) (f, t) = true := by unfold mkOk; rw [hv, hc]; rfl
      obtain ⟨r0, r1, hg⟩ := canZ_range hc
      obtain ⟨q0, q1⟩ := goalZ_range hg
      rw [bL_length] at r1 q1
      have Hm := Lib.hid hm
      clear hm hg
      go_enter Tryz.func27, Tryz.ntmps27
      go_wp2_with (first
        | (go_at_call 22; refine (IsLine_any s _ hs).mono ?_; rintro e w1 ⟨rfl, hb1⟩; obtain ⟨m0, m1⟩ := box2 hb1)
        | (go_at_call 64; refine (can_any s f t _ (by omega)).mono ?_; rintro e w2 ⟨rfl, hb2⟩; have m2 := pw_cell_below hb2 m0; have m3 := pw_cell_below hb2 m1)
        | (go_at_call 66; refine (isJump_any f t _ (by omega) (by omega)).mono ?_; rintro e w3 ⟨rfl, hb3⟩))
      go_ret2
      exact ⟨by rw [Hm.out]; rfl, bel_trans (bel_trans (bel_box hb1) hb2) hb3⟩
    · have hcf : canZ (bL s) (f, t) = false := by simpa using hc
      have hm : mkOk (bL s) (f, t) = false := by unfold mkOk; rw [hv, hcf]; rfl
      have Hm := Lib.hid hm
      clear hm hc
      go_enter Tryz.func27, Tryz.ntmps27
      go_wp2_with (first
        | (go_at_call 22; refine (IsLine_any s _ hs).mono ?_; rintro e w1 ⟨rfl, hb1⟩; obtain ⟨m0, m1⟩ := box2 hb1)
        | (go_at_call 64; refine (can_any s f t _ (by omega)).mono ?_; rintro e w2 ⟨rfl, hb2⟩))
      go_ret2
      exact ⟨by rw [Hm.out]; rfl, bel_trans (bel_box hb1) hb2⟩
  · have hf : lineB (bL s) 12 = false := by simpa using hv
    have hm : mkOk (bL s) (f, t) = false := by unfold mkOk; rw [hf]; rfl
    have Hm := Lib.hid hm
    clear hm hv
    go_enter Tryz.func27, Tryz.ntmps27
    go_wp2_with (go_at_call 22; refine (IsLine_any s _ hs).mono ?_; rintro e w1 ⟨rfl, hb1⟩)
    go_ret2
    exact ⟨by rw [Hm.out]; rfl, bel_box hb1⟩
theorem count1_any (s : ByteArray) (c : UInt8) (w : World) :
    Calls Tryz.prog 102 #[.string s, .string ⟨#[c]⟩] w fun e w' => e = .returned (.int .i64 ((bL s).count c.toNat : Nat)) ∧ w = w' := by
  refine (Tryz.strings_Count_one s c w).mono ?_
  rintro e w' ⟨rfl, rfl⟩
  refine ⟨ret_int ?_, rfl⟩
  unfold Lib.countByte bL
  congr 1
  generalize s.data.toList = l
  induction l with
  | nil => rfl
  | cons b l ih => simp only [List.count_cons, List.map_cons, ih]; congr 1; by_cases h : b = c <;> simp [h, UInt8.toNat_inj]
theorem count_any (s : ByteArray) (w : World) :
    Calls Tryz.prog 71 #[.string s] w fun e w' => e = .returned (.tuple #[.int .i64 ((bL s).count 84 : Nat), .int .i64 ((bL s).count 46 : Nat), .int .i64 ((bL s).count 70 : Nat)]) ∧ w = w' := by
  go_enter Tryz.func71, Tryz.ntmps71
  go_wp2_with fail
  refine (count1_any s 84 _).mono ?_
  rintro e w' ⟨rfl, rfl⟩
  go_wp2_with fail
  refine (count1_any s 46 _).mono ?_
  rintro e w' ⟨rfl, rfl⟩
  go_wp2_with fail
  refine (count1_any s 70 _).mono ?_
  rintro e w' ⟨rfl, rfl⟩
  go_wp2_with fail
  go_ret3
  exact ⟨rfl, rfl⟩
theorem isBlocked_any (s : ByteArray) (w : World) (hs : s.size ≤ 1000000) :
    Calls Tryz.prog 60 #[.string s] w fun e w' => e = .returned (.bool (blockedZ (bL s))) ∧ Below w.heap.size w w' := by
  have hmi := fun W => moves_any s ⟨#[84, 70]⟩ W hs
  rw [show bL ⟨#[84, 70]⟩ = TF from rfl] at hmi
  have hbz : blockedZ (bL s) = (((movesL (bL s) TF).length : Int) == 0) := by
    unfold blockedZ
    cases movesL (bL s) TF <;> simp
    omega
  have Hbz := Lib.hid hbz
  clear hbz
  go_enter Tryz.func60, Tryz.ntmps60
  go_wp2_with (go_at_call 92; refine (hmi _).mono ?_; rintro e w1 ⟨v, rfl, hown, hb⟩; obtain ⟨A, c, rfl⟩ := own_slice hown)
  go_ret
  exact ⟨ret_bool (by rw [Hbz.out]), hb⟩
end Go.Proofs.YtemicglkmnjibaaGreatDoor
