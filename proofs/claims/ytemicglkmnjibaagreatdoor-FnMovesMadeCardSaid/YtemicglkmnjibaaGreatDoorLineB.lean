/-
  What the functions on lines compute that call the library or make a slice (walks); no condition but on sizes.
-/
import Derived.Test.YtemicglkmnjibaaGreatDoorLineA
import Derived.Test.YtemicglkmnjibaaGreatDoorLib1
import Derived.Laws.AppendOwn
namespace Go.Proofs.YtemicglkmnjibaaGreatDoor
open Go.RowKit
set_option linter.unusedVariables false
set_option linter.unusedSimpArgs false
theorem trim_any (s : ByteArray) (w : World) (hs : s.size ≤ 140737488351232) :
    Calls Tryz.prog 96 #[.string s, .string ⟨#[46, 70, 84]⟩] w fun e w' => ∃ r : ByteArray, e = .returned (.string r) ∧ r.toList.isEmpty = (bL s).all isSign ∧ Below w.heap.size w w' := by
  refine (Any.strings_Trim_laid Tryz.lays160 (by kernel_rfl) s ⟨#[46, 70, 84]⟩ w (by omega) (by decide) (ascii_of_all (by decide))).mono ?_
  rintro e w' ⟨rfl, hb⟩
  exact ⟨_, rfl, by rw [← trimSigns]; simp [ByteArray.toList_eq], hb⟩
set_option maxHeartbeats 1000000 in
theorem isLineOf_any (s : ByteArray) (m : Nat) (w : World) (hs : s.size ≤ 140737488351232) (hm : m ≤ 1000) :
    Calls Tryz.prog 63 #[.string s, .int .i64 m] w fun e w' => e = .returned (.bool (lineB (bL s) m)) ∧ Below w.heap.size w w' := by
  have hl := bL_length s
  by_cases h : 1 ≤ s.size ∧ s.size ≤ m
  · have fin : lineB (bL s) m = (bL s).all isSign := by unfold lineB; rw [hl, decide_eq_true h.1, decide_eq_true h.2]; rfl
    have Hf := Lib.hid fin
    obtain ⟨h1, h2⟩ := h
    clear fin hl
    go_enter Tryz.func63, Tryz.ntmps63
    go_wp2_with (first | (go_at_call 80; refine (within_any _ _ _ _).mono ?_; rintro e w' ⟨rfl, rfl⟩) | (go_at_call 96; refine (trim_any s _ hs).mono ?_; rintro e w1 ⟨r, rfl, hr, hb⟩))
    go_ret
    exact ⟨ret_bool (by rw [Hf.out]), hb⟩
  · have fin : lineB (bL s) m = false := by
      unfold lineB; rw [hl]
      by_cases h1 : 1 ≤ s.size
      · rw [decide_eq_false (fun h2 => h ⟨h1, h2⟩)]; simp
      · rw [decide_eq_false h1]; rfl
    have Hf := Lib.hid fin
    clear fin hl
    go_enter Tryz.func63, Tryz.ntmps63
    go_wp2_with (first | (go_at_call 80; refine (within_any _ _ _ _).mono ?_; rintro e w' ⟨rfl, rfl⟩))
    go_ret
    exact ⟨ret_bool (by rw [Hf.out]), Below.refl _ _⟩
theorem IsLine_any (s : ByteArray) (w : World) (hs : s.size ≤ 140737488351232) :
    Calls Tryz.prog 22 #[.string s] w fun e w' => e = .returned (.bool (lineB (bL s) 12)) ∧ Below w.heap.size w w' := by
  go_enter Tryz.func22, Tryz.ntmps22
  go_wp2_with (go_at_call 63; refine (isLineOf_any s 12 _ hs (by omega)).mono ?_; rintro e w1 ⟨rfl, hb⟩)
  go_ret
  exact ⟨rfl, hb⟩
theorem contains1_yes (s : ByteArray) (c : Nat) (hc : c < 256) (h : c ∈ bL s) (w : World) :
    Calls Tryz.prog 110 #[.string s, .string ⟨#[UInt8.ofNat c]⟩] w fun e w' => e = .returned (.bool true) ∧ w = w' := by
  refine (Tryz.strings_Contains_one s (UInt8.ofNat c) w).mono ?_
  rintro e w' ⟨rfl, rfl⟩
  refine ⟨ret_bool ?_, rfl⟩
  rw [contains_bL]
  simp [Nat.mod_eq_of_lt hc, h]
theorem contains1_no (s : ByteArray) (c : Nat) (hc : c < 256) (h : ¬ c ∈ bL s) (w : World) :
    Calls Tryz.prog 110 #[.string s, .string ⟨#[UInt8.ofNat c]⟩] w fun e w' => e = .returned (.bool false) ∧ w = w' := by
  refine (Tryz.strings_Contains_one s (UInt8.ofNat c) w).mono ?_
  rintro e w' ⟨rfl, rfl⟩
  refine ⟨ret_bool ?_, rfl⟩
  rw [contains_bL]
  simp [Nat.mod_eq_of_lt hc, h]
theorem infoMove : (Tryz.prog.info? 38).map (fun i => (i.zero, i.size, i.bytes)) = some (some (.agg #[.int .i64 0, .int .i64 0]), 2, 16) := by kernel_rfl
set_option maxRecDepth 100000 in
set_option maxHeartbeats 2000000 in
theorem moves_any (s ks : ByteArray) (w : World) (hs : s.size ≤ 1000000) :
    Calls Tryz.prog 92 #[.string s, .string ks] w fun e w' => ∃ v, e = .returned v ∧ w'.ownsRow w.heap.size 38 2 v (movesL (bL s) (bL ks)).length (mvCells (movesL (bL s) (bL ks))) ∧ Below w.heap.size w w' := by
  obtain ⟨i0, hi, hz0, hz1, hz2⟩ := info_parts infoMove
  go_enter Tryz.func92, Tryz.ntmps92
  go_wp2
  go_loopw [5, 12] (fun v i wr => ∃ k : Nat, k ≤ s.size ∧ i = .int .i64 k ∧ wr.ownsRow w.heap.size 38 2 v (movesUpto (bL s) (bL ks) k).length (mvCells (movesUpto (bL s) (bL ks) k)) ∧ Below w.heap.size w wr)
    (fun _ i _ => s.size - (intOf i).toNat)
  case atStart => exact ⟨0, Nat.zero_le _, rfl, by simpa [movesUpto, mvCells] using World.ownsRow_made w #[] 0 (Nat.le_refl _) (by simp [maxLen]) (by simp), (Below.refl _ _).alloc (Nat.le_refl _) _⟩
  case round =>
    obtain ⟨k, hk, rfl, hown, hb⟩ := hrel
    by_cases hlt : k < s.size
    · have hc := chN_eq s hlt
      have hx := extract_one s hlt
      have hcl := chN_lt s k
      have hml := movesUpto_length (bL s) (bL ks) k
      cases hg : goalZ (bL s) k with
      | none =>
        have hu : movesUpto (bL s) (bL ks) (k + 1) = movesUpto (bL s) (bL ks) k := by rw [movesUpto_succ]; unfold moveAt; rw [hg]; simp
        have Hu := Lib.hid hu
        have hgo := fun W => goal_none s k W hs hlt hg
        clear hu hg
        go_wp2_with (go_at_call 97; refine (hgo _).mono ?_; rintro e w' ⟨rfl, n, rfl⟩)
        go_roundw
        case rel => exact ⟨k + 1, by omega, by go_num, by rw [Hu.out]; exact hown, pw_below_drewN hb n⟩
        case measure => simp [intOf]; omega
      | some t =>
        have hgo := fun W => goal_some s k W hs hlt hg
        by_cases hin : chN (bL s) k ∈ bL ks
        · have hu : movesUpto (bL s) (bL ks) (k + 1) = movesUpto (bL s) (bL ks) k ++ [((k : Int), t)] := by rw [movesUpto_succ]; unfold moveAt; rw [hg, if_pos (List.contains_iff_mem.2 hin)]; rfl
          have hcon := fun W => contains1_yes ks _ hcl hin W
          have Hu := Lib.hid hu
          clear hu hg hin
          go_wp2_with (first
            | (go_at_call 97; refine (hgo _).mono ?_; rintro e w' ⟨rfl, n, rfl⟩)
            | (go_at_call 110; refine (hcon _).mono ?_; rintro e w' ⟨rfl, rfl⟩)
            | (at_builtin; refine wpList_append_own _ rfl (.tmp 31) (.tmp 35) 25 rfl w.heap.size 38 i0 (.agg #[.int .i64 0, .int .i64 0]) 2 16 Tryz.underlying25 hi hz0 hz1 hz2 rfl (by decide) _ _ _ rfl ((ownsRow_drewN hown n).alloc _) ⟨wr.heap.size, 0, none⟩ 1 1 [.int .i64 k, .int .i64 t] rfl rfl (new_cells _) (by simp [Value.oneCell']) (by simp only [maxLen]; omega) (by omega) ?c5 ?_; rotate_left 1; intro v' w1 hown' hgrow _))
          case c5 => have := hb.size; simp; omega
          go_roundw
          case rel => exact ⟨k + 1, by omega, by go_num, by rw [Hu.out, mvCells_append, List.length_append]; exact hown', below_own ((pw_below_drewN hb n).alloc hb.size _) ((ownsRow_drewN hown n).alloc _) hgrow⟩
          case measure => simp [intOf]; omega
        · have hu : movesUpto (bL s) (bL ks) (k + 1) = movesUpto (bL s) (bL ks) k := by rw [movesUpto_succ]; unfold moveAt; rw [if_neg (by rw [List.contains_iff_mem]; exact hin)]; simp
          have hcon := fun W => contains1_no ks _ hcl hin W
          have Hu := Lib.hid hu
          clear hu hg hin
          go_wp2_with (first
            | (go_at_call 97; refine (hgo _).mono ?_; rintro e w' ⟨rfl, n, rfl⟩)
            | (go_at_call 110; refine (hcon _).mono ?_; rintro e w' ⟨rfl, rfl⟩))
          go_roundw
          case rel => exact ⟨k + 1, by omega, by go_num, by rw [Hu.out]; exact hown, pw_below_drewN hb n⟩
          case measure => simp [intOf]; omega
    · go_wp2
      go_ret
      have : k = s.size := by omega
      subst this
      exact ⟨_, rfl, by simpa [movesL, bL_length] using hown, hb⟩
end Go.Proofs.YtemicglkmnjibaaGreatDoor
