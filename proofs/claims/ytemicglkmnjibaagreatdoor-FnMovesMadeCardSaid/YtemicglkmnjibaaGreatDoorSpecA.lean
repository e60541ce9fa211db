/-
  What the reference's small functions on lines compute (walks); no condition but on sizes.
-/
import Derived.Test.YtemicglkmnjibaaGreatDoorLineG
import Derived.Laws.Concat
import Derived.Lib.Strings
namespace Go.Proofs.YtemicglkmnjibaaGreatDoor
open Go.RowKit
set_option linter.unusedVariables false
set_option linter.unusedSimpArgs false
theorem bB_append (a b : List Nat) : bB a ++ bB b = bB (a ++ b) := by
  apply ByteArray.ext
  simp [bB, ByteArray.data_append]
theorem bB_nil : bB [] = ⟨#[]⟩ := rfl
theorem bB_extract (l : List Nat) (i j : Nat) : (bB l).extract i j = bB ((l.take j).drop i) := by
  apply ByteArray.ext
  apply Array.ext'
  simp [bB, ByteArray.data_extract, List.extract_eq_take_drop, List.map_drop, List.map_take, List.drop_take]
theorem extract_bL (s : ByteArray) (i j : Nat) : s.extract i j = bB (((bL s).take j).drop i) := by
  rw [← bB_extract, bB_bL]
theorem l1In_any (x lo hi : Int) (w : World) :
    Calls Tryz.prog 84 #[.int .i64 x, .int .i64 lo, .int .i64 hi] w fun e w' => e = .returned (.bool (decide (lo ≤ x) && decide (x ≤ hi))) ∧ w = w' := by
  by_cases h : lo ≤ x
  all_goals
    go_enter Tryz.func84, Tryz.ntmps84
    go_wp2
    go_ret
    first
      | exact ⟨ret_bool (by rw [decide_eq_true h]; rfl), rfl⟩
      | exact ⟨ret_bool (by rw [decide_eq_false (Int.not_le.2 h)]; rfl), rfl⟩
theorem l1In_true {x lo hi : Int} (h : lo ≤ x ∧ x ≤ hi) (w : World) : Calls Tryz.prog 84 #[.int .i64 x, .int .i64 lo, .int .i64 hi] w fun e w' => e = .returned (.bool true) ∧ w = w' := by
  have := l1In_any x lo hi w
  rwa [decide_eq_true h.1, decide_eq_true h.2] at this
theorem l1In_false {x lo hi : Int} (h : ¬ (lo ≤ x ∧ x ≤ hi)) (w : World) : Calls Tryz.prog 84 #[.int .i64 x, .int .i64 lo, .int .i64 hi] w fun e w' => e = .returned (.bool false) ∧ w = w' := by
  have := l1In_any x lo hi w
  rwa [show (decide (lo ≤ x) && decide (x ≤ hi)) = false by rw [← Bool.decide_and, decide_eq_false h]] at this
set_option maxHeartbeats 1000000 in
theorem liGood_any (s : ByteArray) (w : World) (hs : s.size ≤ 140737488351232) :
    Calls Tryz.prog 54 #[.string s] w fun e w' => e = .returned (.bool (lineB (bL s) 12)) ∧ w = w' := by
  have hl := bL_length s
  by_cases h : 1 ≤ s.size ∧ s.size ≤ 12
  · have fin : lineB (bL s) 12 = (bL s).all isSign := by unfold lineB; rw [hl, decide_eq_true h.1, decide_eq_true h.2]; rfl
    have Hf := Lib.hid fin
    obtain ⟨h1, h2⟩ := h
    have Hl := Lib.hid hl
    clear fin hl
    go_enter Tryz.func54, Tryz.ntmps54
    go_wp2_with (go_at_call 84; refine (l1In_true (by omega) _).mono ?_; rintro e w' ⟨rfl, rfl⟩)
    go_loop [3] (fun i => ∃ k : Nat, k ≤ s.size ∧ i = .int .i64 k ∧ Hid (((bL s).drop k).all isSign = (bL s).all isSign))
      (fun i => s.size - (intOf i).toNat)
    case atStart => exact ⟨0, Nat.zero_le _, rfl, by simp [Hid]⟩
    case round =>
      obtain ⟨k, hk, rfl, HP⟩ := hrel
      by_cases hlt : k < s.size
      · have hc := chN_eq s hlt
        have hp := HP.out
        rw [drop_chN (by rw [Hl.out]; exact hlt), List.all_cons] at hp
        clear HP
        by_cases h84 : chN (bL s) k = 84
        · have e1 : ((chN (bL s) k : Int) != 84) = false := bne_eq_false_iff_eq.2 (by omega)
          rw [show isSign (chN (bL s) k) = true by rw [h84]; rfl, Bool.true_and] at hp
          have Hp := Lib.hid hp
          clear hp h84
          go_wp2
          go_round
          case rel => exact ⟨k + 1, by omega, by go_num, Hp⟩
          case measure => simp [intOf]; omega
        · have e1 : ((chN (bL s) k : Int) != 84) = true := bne_iff_ne.2 (by omega)
          by_cases h70 : chN (bL s) k = 70
          · have e2 : ((chN (bL s) k : Int) != 70) = false := bne_eq_false_iff_eq.2 (by omega)
            rw [show isSign (chN (bL s) k) = true by rw [h70]; rfl, Bool.true_and] at hp
            have Hp := Lib.hid hp
            clear hp h84 h70
            go_wp2
            go_round
            case rel => exact ⟨k + 1, by omega, by go_num, Hp⟩
            case measure => simp [intOf]; omega
          · have e2 : ((chN (bL s) k : Int) != 70) = true := bne_iff_ne.2 (by omega)
            by_cases h46 : chN (bL s) k = 46
            · have e3 : ((chN (bL s) k : Int) != 46) = false := bne_eq_false_iff_eq.2 (by omega)
              rw [show isSign (chN (bL s) k) = true by rw [h46]; rfl, Bool.true_and] at hp
              have Hp := Lib.hid hp
              clear hp h84 h70 h46
              go_wp2
              go_round
              case rel => exact ⟨k + 1, by omega, by go_num, Hp⟩
              case measure => simp [intOf]; omega
            · have e3 : ((chN (bL s) k : Int) != 46) = true := bne_iff_ne.2 (by omega)
              rw [show isSign (chN (bL s) k) = false by unfold isSign; simp [h84, h70, h46], Bool.false_and] at hp
              have Hp := Lib.hid hp
              clear hp h84 h70 h46
              go_wp2
              go_ret
              exact ⟨ret_bool (by rw [Hf.out, ← Hp.out]), rfl⟩
      · have hp := HP.out
        rw [List.drop_of_length_le (by rw [Hl.out]; omega)] at hp
        have Hp := Lib.hid hp
        clear HP hp
        go_wp2
        go_ret
        exact ⟨ret_bool (by rw [Hf.out, ← Hp.out]; rfl), rfl⟩
  · have fin : lineB (bL s) 12 = false := by
      unfold lineB; rw [hl]
      by_cases h1 : 1 ≤ s.size
      · rw [decide_eq_false (fun h2 => h ⟨h1, h2⟩)]; simp
      · rw [decide_eq_false h1]; rfl
    have Hf := Lib.hid fin
    clear fin hl
    go_enter Tryz.func54, Tryz.ntmps54
    go_wp2_with (go_at_call 84; refine (l1In_false (by omega) _).mono ?_; rintro e w' ⟨rfl, rfl⟩)
    go_ret
    exact ⟨ret_bool (by rw [Hf.out]), rfl⟩
theorem specIsLine_any (s : ByteArray) (w : World) (hs : s.size ≤ 140737488351232) :
    Calls Tryz.prog 23 #[.string s] w fun e w' => e = .returned (.bool (lineB (bL s) 12)) ∧ w = w' := by
  go_enter Tryz.func23, Tryz.ntmps23
  go_wp2_with (go_at_call 54; refine (liGood_any s _ hs).mono ?_; rintro e w1 ⟨rfl, rfl⟩)
  go_ret
  exact ⟨rfl, rfl⟩
set_option maxHeartbeats 1000000 in
theorem liPut_any (s : ByteArray) (i c : Nat) (w : World) (hs : s.size ≤ 1000000) (hi : i < s.size) :
    Calls Tryz.prog 100 #[.string s, .int .i64 i, .string ⟨#[UInt8.ofNat c]⟩] w fun e w' => e = .returned (.string (bB ((bL s).set i c))) ∧ ∃ n, w' = w.drewN n := by
  have hl := bL_length s
  have fin : s.extract 0 i ++ ⟨#[UInt8.ofNat c]⟩ ++ s.extract (i + 1) s.size = bB ((bL s).set i c) := by
    rw [extract_bL, extract_bL, show (⟨#[UInt8.ofNat c]⟩ : ByteArray) = bB [c] from rfl, bB_append, bB_append]
    congr 1
    rw [List.set_eq_take_append_cons_drop, if_pos (by omega)]
    simp [← hl]
  have Hf := Lib.hid fin
  clear fin hl
  have h1 : (i : Int) ≤ s.size := by omega
  have h2 : (i : Int) + 1 ≤ s.size := by omega
  go_enter Tryz.func100, Tryz.ntmps100
  go_wp2
  go_quiet (fail)
  go_wp2
  go_ret
  exact ⟨ret_str Hf.out, _, rfl⟩
set_option maxHeartbeats 1000000 in
theorem liMake_any (s : ByteArray) (f t : Nat) (w : World) (hs : s.size ≤ 1000000) (hf : f < s.size) (ht : t < s.size) (hne : f ≠ t) :
    Calls Tryz.prog 69 #[.string s, .agg #[.int .i64 f, .int .i64 t]] w fun e w' => e = .returned (.string (bB (madeL (bL s) (f, t)))) ∧ Below w.heap.size w w' := by
  have hl := bL_length s
  have hx := extract_one s hf
  have fin : ((bL s).set f 46).set t (chN (bL s) f) = madeL (bL s) (f, t) := by
    unfold madeL
    rw [List.set_comm _ _ hne]; rfl
  have h1 : ∀ W : World, Calls Tryz.prog 100 #[.string s, .int .i64 f, .string ⟨#[46]⟩] W fun e w' => e = .returned (.string (bB ((bL s).set f 46))) ∧ ∃ n, w' = W.drewN n := fun W => liPut_any s f 46 W hs hf
  have h2 : ∀ W : World, Calls Tryz.prog 100 #[.string (bB ((bL s).set f 46)), .int .i64 t, .string ⟨#[UInt8.ofNat (chN (bL s) f)]⟩] W fun e w' => e = .returned (.string (bB (madeL (bL s) (f, t)))) ∧ ∃ n, w' = W.drewN n := by
    intro W
    have hlt : ∀ x ∈ (bL s).set f 46, x < 256 := by
      intro x hx
      rcases List.mem_or_eq_of_mem_set hx with h | h
      · exact bL_lt s x h
      · omega
    have := liPut_any (bB ((bL s).set f 46)) t (chN (bL s) f) W (by rw [bB_size, List.length_set, hl]; exact hs) (by rw [bB_size, List.length_set, hl]; exact ht)
    rwa [bL_bB hlt, fin] at this
  have H1 := Lib.hid h1
  have H2 := Lib.hid h2
  clear fin hl h1 h2
  have h3 : (f : Int) + 1 ≤ s.size := by omega
  go_enter Tryz.func69, Tryz.ntmps69
  go_wp2
  go_quiet ((first | (go_at_call 100; with_reducible exact Calls.quiet_of (H1.out _)) | (go_at_call 100; with_reducible exact Calls.quiet_of (H2.out _))))
  go_wp2
  go_ret
  exact ⟨rfl, pw_below_drewN ((Below.refl _ _).alloc (Nat.le_refl _) _) _⟩
end Go.Proofs.YtemicglkmnjibaaGreatDoor
