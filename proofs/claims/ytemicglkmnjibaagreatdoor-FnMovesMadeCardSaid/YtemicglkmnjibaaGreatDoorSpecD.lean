/-
  What the reference's exported functions on lines compute (walks); no condition but on sizes.
-/
import Derived.Test.YtemicglkmnjibaaGreatDoorSpecC
namespace Go.Proofs.YtemicglkmnjibaaGreatDoor
open Go.RowKit
set_option linter.unusedVariables false
set_option linter.unusedSimpArgs false
theorem signs_of {s : ByteArray} {m : Nat} (h : lineB (bL s) m = true) : ∀ c ∈ bL s, isSign c = true := (lineB_iff.1 h).2.2
set_option maxHeartbeats 1000000 in
theorem specMovesOf_any (s : ByteArray) (w : World) (hs : s.size ≤ 140737488351232) :
    Calls Tryz.prog 8 #[.string s] w fun e w' => ∃ v, e = .returned (.tuple #[v, .bool (lineB (bL s) 12)]) ∧ w'.ownsRow w.heap.size 38 2 v (movesOf (bL s) TF).length (mvCells (movesOf (bL s) TF)) ∧ Below w.heap.size w w' := by
  by_cases hv : lineB (bL s) 12 = true
  · have hsz := size_of_line hv
    have hm : movesOf (bL s) TF = movesL (bL s) (kindsOf true true) := by unfold movesOf; rw [if_pos hv]; rfl
    have hlm := fun W => liMoves_any s true true W (by omega) (signs_of hv)
    have Hm := Lib.hid hm
    clear hm
    go_enter Tryz.func8, Tryz.ntmps8
    go_wp2_with (first | (go_at_call 54; refine (liGood_any s _ hs).mono ?_; rintro e w1 ⟨rfl, rfl⟩) | (go_at_call 55; refine (hlm _).mono ?_; rintro e w2 ⟨v, rfl, hown, hb2⟩))
    go_ret2
    exact ⟨v, by rw [hv]; rfl, by rw [Hm.out]; exact hown, hb2⟩
  · have hf : lineB (bL s) 12 = false := by simpa using hv
    have hm : movesOf (bL s) TF = [] := by unfold movesOf; rw [if_neg hv]
    have Hm := Lib.hid hm
    clear hm hv
    go_enter Tryz.func8, Tryz.ntmps8
    go_wp2_with (go_at_call 54; refine (liGood_any s _ hs).mono ?_; rintro e w1 ⟨rfl, rfl⟩)
    go_ret2
    exact ⟨_, by rw [hf]; rfl, by rw [Hm.out]; exact World.ownsRow_nil _ _ _ _, Below.refl _ _⟩
set_option maxHeartbeats 1000000 in
theorem specToadMoves_any (s : ByteArray) (w : World) (hs : s.size ≤ 140737488351232) :
    Calls Tryz.prog 10 #[.string s] w fun e w' => ∃ v, e = .returned (.tuple #[v, .bool (lineB (bL s) 12)]) ∧ w'.ownsRow w.heap.size 38 2 v (movesOf (bL s) [84]).length (mvCells (movesOf (bL s) [84])) ∧ Below w.heap.size w w' := by
  by_cases hv : lineB (bL s) 12 = true
  · have hsz := size_of_line hv
    have hm : movesOf (bL s) [84] = movesL (bL s) (kindsOf true false) := by unfold movesOf; rw [if_pos hv]; rfl
    have hlm := fun W => liMoves_any s true false W (by omega) (signs_of hv)
    have Hm := Lib.hid hm
    clear hm
    go_enter Tryz.func10, Tryz.ntmps10
    go_wp2_with (first | (go_at_call 54; refine (liGood_any s _ hs).mono ?_; rintro e w1 ⟨rfl, rfl⟩) | (go_at_call 55; refine (hlm _).mono ?_; rintro e w2 ⟨v, rfl, hown, hb2⟩))
    go_ret2
    exact ⟨v, by rw [hv]; rfl, by rw [Hm.out]; exact hown, hb2⟩
  · have hf : lineB (bL s) 12 = false := by simpa using hv
    have hm : movesOf (bL s) [84] = [] := by unfold movesOf; rw [if_neg hv]
    have Hm := Lib.hid hm
    clear hm hv
    go_enter Tryz.func10, Tryz.ntmps10
    go_wp2_with (go_at_call 54; refine (liGood_any s _ hs).mono ?_; rintro e w1 ⟨rfl, rfl⟩)
    go_ret2
    exact ⟨_, by rw [hf]; rfl, by rw [Hm.out]; exact World.ownsRow_nil _ _ _ _, Below.refl _ _⟩
set_option maxHeartbeats 1000000 in
theorem specFrogMoves_any (s : ByteArray) (w : World) (hs : s.size ≤ 140737488351232) :
    Calls Tryz.prog 12 #[.string s] w fun e w' => ∃ v, e = .returned (.tuple #[v, .bool (lineB (bL s) 12)]) ∧ w'.ownsRow w.heap.size 38 2 v (movesOf (bL s) [70]).length (mvCells (movesOf (bL s) [70])) ∧ Below w.heap.size w w' := by
  by_cases hv : lineB (bL s) 12 = true
  · have hsz := size_of_line hv
    have hm : movesOf (bL s) [70] = movesL (bL s) (kindsOf false true) := by unfold movesOf; rw [if_pos hv]; rfl
    have hlm := fun W => liMoves_any s false true W (by omega) (signs_of hv)
    have Hm := Lib.hid hm
    clear hm
    go_enter Tryz.func12, Tryz.ntmps12
    go_wp2_with (first | (go_at_call 54; refine (liGood_any s _ hs).mono ?_; rintro e w1 ⟨rfl, rfl⟩) | (go_at_call 55; refine (hlm _).mono ?_; rintro e w2 ⟨v, rfl, hown, hb2⟩))
    go_ret2
    exact ⟨v, by rw [hv]; rfl, by rw [Hm.out]; exact hown, hb2⟩
  · have hf : lineB (bL s) 12 = false := by simpa using hv
    have hm : movesOf (bL s) [70] = [] := by unfold movesOf; rw [if_neg hv]
    have Hm := Lib.hid hm
    clear hm hv
    go_enter Tryz.func12, Tryz.ntmps12
    go_wp2_with (go_at_call 54; refine (liGood_any s _ hs).mono ?_; rintro e w1 ⟨rfl, rfl⟩)
    go_ret2
    exact ⟨_, by rw [hf]; rfl, by rw [Hm.out]; exact World.ownsRow_nil _ _ _ _, Below.refl _ _⟩
theorem blockedZ_len (l : List Nat) : blockedZ l = (((movesL l TF).length : Int) == 0) := by
  unfold blockedZ
  cases movesL l TF <;> simp
  omega
set_option maxHeartbeats 1000000 in
theorem specIsBlocked_any (s : ByteArray) (w : World) (hs : s.size ≤ 140737488351232) :
    Calls Tryz.prog 18 #[.string s] w fun e w' => e = .returned (.tuple #[.bool (lineB (bL s) 12 && blockedZ (bL s)), .bool (lineB (bL s) 12)]) ∧ Below w.heap.size w w' := by
  by_cases hv : lineB (bL s) 12 = true
  · have hsz := size_of_line hv
    have hlm := fun W => liMoves_any s true true W (by omega) (signs_of hv)
    rw [show kindsOf true true = TF from rfl] at hlm
    have hm := blockedZ_len (bL s)
    have Hm := Lib.hid hm
    clear hm
    go_enter Tryz.func18, Tryz.ntmps18
    go_wp2_with (first | (go_at_call 54; refine (liGood_any s _ hs).mono ?_; rintro e w1 ⟨rfl, rfl⟩) | (go_at_call 55; refine (hlm _).mono ?_; rintro e w2 ⟨v, rfl, hown, hb2⟩; obtain ⟨A, c, rfl⟩ := own_slice hown))
    go_ret2
    exact ⟨by rw [hv, Hm.out]; rfl, hb2⟩
  · have hf : lineB (bL s) 12 = false := by simpa using hv
    clear hv
    go_enter Tryz.func18, Tryz.ntmps18
    go_wp2_with (go_at_call 54; refine (liGood_any s _ hs).mono ?_; rintro e w1 ⟨rfl, rfl⟩)
    go_ret2
    exact ⟨by rw [hf]; rfl, Below.refl _ _⟩
set_option maxHeartbeats 1000000 in
theorem specCanMove_any (s : ByteArray) (f t : Int) (w : World) (hs : s.size ≤ 140737488351232) :
    Calls Tryz.prog 31 #[.string s, .agg #[.int .i64 f, .int .i64 t]] w fun e w' => e = .returned (.tuple #[.bool (mkOk (bL s) (f, t)), .bool (lineB (bL s) 12)]) ∧ Below w.heap.size w w' := by
  by_cases hv : lineB (bL s) 12 = true
  · have hsz := size_of_line hv
    have hm : mkOk (bL s) (f, t) = canZ (bL s) (f, t) := by unfold mkOk; rw [hv]; rfl
    have Hm := Lib.hid hm
    clear hm
    go_enter Tryz.func31, Tryz.ntmps31
    go_wp2_with (first | (go_at_call 54; refine (liGood_any s _ hs).mono ?_; rintro e w1 ⟨rfl, rfl⟩) | (go_at_call 68; refine (liCan_any s f t _ (by omega)).mono ?_; rintro e w2 ⟨rfl, hb2⟩))
    go_ret2
    exact ⟨by rw [Hm.out, hv]; rfl, bel_box hb2⟩
  · have hf : lineB (bL s) 12 = false := by simpa using hv
    have hm : mkOk (bL s) (f, t) = false := by unfold mkOk; rw [hf]; rfl
    have Hm := Lib.hid hm
    clear hm hv
    go_enter Tryz.func31, Tryz.ntmps31
    go_wp2_with (go_at_call 54; refine (liGood_any s _ hs).mono ?_; rintro e w1 ⟨rfl, rfl⟩)
    go_ret2
    exact ⟨by rw [Hm.out, hf]; rfl, (Below.refl _ _).alloc (Nat.le_refl _) _⟩
theorem can_ne {l : List Nat} {f t : Int} (h : canZ l (f, t) = true) : f ≠ t := by
  intro e
  subst e
  obtain ⟨h0, h1, hg⟩ := canZ_range h
  have := goal_near hg
  omega
set_option maxHeartbeats 1000000 in
theorem specMakeMove_any (s : ByteArray) (f t : Int) (w : World) (hs : s.size ≤ 140737488351232) :
    Calls Tryz.prog 30 #[.string s, .agg #[.int .i64 f, .int .i64 t]] w fun e w' => e = .returned (.tuple #[.string (madeB (bL s) (f, t)), .bool (mkOk (bL s) (f, t))]) ∧ Below w.heap.size w w' := by
  by_cases hv : lineB (bL s) 12 = true
  · have hsz := size_of_line hv
    by_cases hc : canZ (bL s) (f, t) = true
    · have hm : mkOk (bL s) (f, t) = true := by unfold mkOk; rw [hv, hc]; rfl
      have hmd : madeB (bL s) (f, t) = bB (madeL (bL s) (f, t)) := by unfold madeB; rw [if_pos hm]
      have hne := can_ne hc
      obtain ⟨r0, r1, hg⟩ := canZ_range hc
      obtain ⟨q0, q1⟩ := goalZ_range hg
      rw [bL_length] at r1 q1
      obtain ⟨i, rfl⟩ := Int.eq_ofNat_of_zero_le r0
      obtain ⟨j, rfl⟩ := Int.eq_ofNat_of_zero_le q0
      have hlm := fun W => liMake_any s i j W (by omega) (by omega) (by omega) (by omega)
      have Hm := Lib.hid hm
      have Hmd := Lib.hid hmd
      clear hm hmd hg hne
      go_enter Tryz.func30, Tryz.ntmps30
      go_wp2_with (first
        | (go_at_call 54; refine (liGood_any s _ hs).mono ?_; rintro e w1 ⟨rfl, rfl⟩)
        | (go_at_call 68; refine (liCan_any s i j _ (by omega)).mono ?_; rintro e w2 ⟨rfl, hb2⟩; obtain ⟨m2, m3⟩ := box2 hb2)
        | (go_at_call 69; refine (hlm _).mono ?_; rintro e w3 ⟨rfl, hb3⟩))
      go_ret2
      exact ⟨by rw [Hm.out, Hmd.out]; rfl, bel_trans (bel_box hb2) hb3⟩
    · have hcf : canZ (bL s) (f, t) = false := by simpa using hc
      have hm : mkOk (bL s) (f, t) = false := by unfold mkOk; rw [hv, hcf]; rfl
      have hmd : madeB (bL s) (f, t) = ⟨#[]⟩ := by unfold madeB; rw [if_neg (by rw [hm]; simp)]
      have Hm := Lib.hid hm
      have Hmd := Lib.hid hmd
      clear hm hmd hc
      go_enter Tryz.func30, Tryz.ntmps30
      go_wp2_with (first
        | (go_at_call 54; refine (liGood_any s _ hs).mono ?_; rintro e w1 ⟨rfl, rfl⟩)
        | (go_at_call 68; refine (liCan_any s f t _ (by omega)).mono ?_; rintro e w2 ⟨rfl, hb2⟩))
      go_ret2
      exact ⟨by rw [Hm.out, Hmd.out]; rfl, bel_box hb2⟩
  · have hf : lineB (bL s) 12 = false := by simpa using hv
    have hm : mkOk (bL s) (f, t) = false := by unfold mkOk; rw [hf]; rfl
    have hmd : madeB (bL s) (f, t) = ⟨#[]⟩ := by unfold madeB; rw [if_neg (by rw [hm]; simp)]
    have Hm := Lib.hid hm
    have Hmd := Lib.hid hmd
    clear hm hv hmd
    go_enter Tryz.func30, Tryz.ntmps30
    go_wp2_with (go_at_call 54; refine (liGood_any s _ hs).mono ?_; rintro e w1 ⟨rfl, rfl⟩)
    go_ret2
    exact ⟨by rw [Hm.out, Hmd.out]; rfl, (Below.refl _ _).alloc (Nat.le_refl _) _⟩
def mostZ (a b : Int) : Int := if b < a then a else b
def absZ (a : Int) : Int := if 0 ≤ a then a else -a
theorem l1Most_any (a b : Int) (w : World) : Calls Tryz.prog 101 #[.int .i64 a, .int .i64 b] w fun e w' => e = .returned (.int .i64 (mostZ a b)) ∧ w = w' := by
  by_cases h : b < a
  · have fin : mostZ a b = a := by unfold mostZ; rw [if_pos h]
    have Hf := Lib.hid fin
    clear fin
    go_enter Tryz.func101, Tryz.ntmps101
    go_wp2
    go_ret
    exact ⟨ret_int (by rw [Hf.out]), rfl⟩
  · have fin : mostZ a b = b := by unfold mostZ; rw [if_neg h]
    have Hf := Lib.hid fin
    have h' : decide (b < a) = false := decide_eq_false h
    clear fin
    go_enter Tryz.func101, Tryz.ntmps101
    go_wp2
    go_ret
    exact ⟨ret_int (by rw [Hf.out]), rfl⟩
theorem l1Abs_any (a : Int) (w : World) (h0 : -1000000 ≤ a) (h1 : a ≤ 1000000) : Calls Tryz.prog 70 #[.int .i64 a] w fun e w' => e = .returned (.int .i64 (absZ a)) ∧ w = w' := by
  have fin : mostZ a (-a) = absZ a := by unfold mostZ absZ; split <;> split <;> omega
  have hm := fun W => l1Most_any a (-a) W
  rw [fin] at hm
  clear fin
  go_enter Tryz.func70, Tryz.ntmps70
  go_wp2_with (go_at_call 101; refine (hm _).mono ?_; rintro e w' ⟨rfl, rfl⟩)
  go_ret
  exact ⟨rfl, rfl⟩
set_option maxHeartbeats 1000000 in
theorem specIsJump_any (s : ByteArray) (f t : Int) (w : World) (hs : s.size ≤ 140737488351232) :
    Calls Tryz.prog 32 #[.string s, .agg #[.int .i64 f, .int .i64 t]] w fun e w' => e = .returned (.tuple #[.bool (mkOk (bL s) (f, t) && jumpZ (f, t)), .bool (mkOk (bL s) (f, t))]) ∧ Below w.heap.size w w' := by
  by_cases hv : lineB (bL s) 12 = true
  · have hsz := size_of_line hv
    by_cases hc : canZ (bL s) (f, t) = true
    · have hm : mkOk (bL s) (f, t) = true := by unfold mkOk; rw [hv, hc]; rfl
      obtain ⟨r0, r1, hg⟩ := canZ_range hc
      obtain ⟨q0, q1⟩ := goalZ_range hg
      have hnear := goal_near hg
      rw [bL_length] at r1 q1
      have hj : jumpZ (f, t) = (absZ (t - f) == 2) := by
        unfold jumpZ absZ
        rw [Bool.eq_iff_iff, Bool.and_eq_true, decide_eq_true_iff, decide_eq_true_iff, beq_iff_eq]
        constructor
        · intro ⟨h1, h2⟩; simp only at h1 h2; split <;> omega
        · intro h; simp only; split at h <;> omega
      have Hm := Lib.hid hm
      have Hj := Lib.hid hj
      have d0 : -1000000 ≤ t - f := by omega
      have d1 : t - f ≤ 1000000 := by omega
      have hab := fun W => l1Abs_any (t - f) W d0 d1
      clear hm hg hj hnear
      go_enter Tryz.func32, Tryz.ntmps32
      go_wp2_with (first
        | (go_at_call 54; refine (liGood_any s _ hs).mono ?_; rintro e w1 ⟨rfl, rfl⟩)
        | (go_at_call 68; refine (liCan_any s f t _ (by omega)).mono ?_; rintro e w2 ⟨rfl, hb2⟩; obtain ⟨m2, m3⟩ := box2 hb2)
        | (go_at_call 70; refine (hab _).mono ?_; rintro e w3 ⟨rfl, rfl⟩))
      go_ret2
      exact ⟨by rw [Hm.out, Hj.out]; rfl, bel_box hb2⟩
    · have hcf : canZ (bL s) (f, t) = false := by simpa using hc
      have hm : mkOk (bL s) (f, t) = false := by unfold mkOk; rw [hv, hcf]; rfl
      have Hm := Lib.hid hm
      clear hm hc
      go_enter Tryz.func32, Tryz.ntmps32
      go_wp2_with (first
        | (go_at_call 54; refine (liGood_any s _ hs).mono ?_; rintro e w1 ⟨rfl, rfl⟩)
        | (go_at_call 68; refine (liCan_any s f t _ (by omega)).mono ?_; rintro e w2 ⟨rfl, hb2⟩))
      go_ret2
      exact ⟨by rw [Hm.out]; rfl, bel_box hb2⟩
  · have hf : lineB (bL s) 12 = false := by simpa using hv
    have hm : mkOk (bL s) (f, t) = false := by unfold mkOk; rw [hf]; rfl
    have Hm := Lib.hid hm
    clear hm hv
    go_enter Tryz.func32, Tryz.ntmps32
    go_wp2_with (go_at_call 54; refine (liGood_any s _ hs).mono ?_; rintro e w1 ⟨rfl, rfl⟩)
    go_ret2
    exact ⟨by rw [Hm.out]; rfl, (Below.refl _ _).alloc (Nat.le_refl _) _⟩
end Go.Proofs.YtemicglkmnjibaaGreatDoor
