/-
  What the functions on moves of a line compute (walks); no condition but on sizes.
-/
import Derived.Test.YtemicglkmnjibaaGreatDoorLineB
import Derived.Test.YtemicglkmnjibaaGreatDoorBytes
import Derived.RegionTactic
import Derived.ChangeAlike
namespace Go.Proofs.YtemicglkmnjibaaGreatDoor
open Go.RowKit
set_option linter.unusedVariables false
set_option linter.unusedSimpArgs false
set_option maxRecDepth 100000 in
set_option maxHeartbeats 2000000 in
theorem made_any (s : ByteArray) (f t : Nat) (w : World) (hs : s.size ≤ 1000000) (hf : f < s.size) (ht : t < s.size) :
    Calls Tryz.prog 65 #[.string s, .agg #[.int .i64 f, .int .i64 t]] w fun e w' => e = .returned (.string (bB (madeL (bL s) (f, t)))) ∧ Below w.heap.size w w' := by
  obtain ⟨W1, c1, hconv, hbb, hb1, hz1⟩ := bytes_of (P := Tryz.prog) (w.alloc (.cells #[.int .i64 f, .int .i64 t] 38)) 9 22 5 s Tryz.underlying9 Tryz.underlying22 Tryz.underlying5
  simp only [World.size_alloc] at hconv hbb hb1 hz1
  have m0 : W1.cell? ⟨w.heap.size, 0, none⟩ = some (.int .i64 f) := (hb1.cell (p := ⟨w.heap.size, 0, none⟩) (by simp)).trans (by simp)
  have m1 : W1.cell? ⟨w.heap.size, 1, none⟩ = some (.int .i64 t) := (hb1.cell (p := ⟨w.heap.size, 1, none⟩) (by simp)).trans (by simp)
  have hl := bL_length s
  have cf := hbb.cell (j := f) (by omega)
  have ct := hbb.cell (j := t) (by omega)
  have ff := hbb.free (j := f) (by omega)
  have ft := hbb.free (j := t) (by omega)
  obtain ⟨v', hy'⟩ := cell?_setCell_some (w := W1) (p := ⟨w.heap.size + 1, t, none⟩) (x := .int .u8 (chN (bL s) f)) (q := ⟨w.heap.size + 1, f, none⟩) cf
  have hbs := ((hbb.set (j := t) (by omega) (chN (bL s) f)).set (j := f) (by rw [List.length_set]; omega) 46)
  have hback := hbs.drew.back (P := Tryz.prog) (Ts := 22) (Td := 9) Tryz.underlying22 Tryz.underlying5 Tryz.underlying9 c1
  rw [List.length_set, List.length_set, hl, show ((46 : Nat) : Int) = 46 from rfl] at hback
  have Hback := Lib.hid hback
  have hb2 : Below w.heap.size w ((W1.setCell ⟨w.heap.size + 1, t, none⟩ (.int .u8 (chN (bL s) f))).setCell ⟨w.heap.size + 1, f, none⟩ (.int .u8 46)).drew :=
    ((((((Below.refl w.heap.size w).alloc (Nat.le_refl _) _).trans (hb1.mono (by simp))).setCell (by simp) _).setCell (by simp) _).drew)
  have Hb2 := Lib.hid hb2
  clear hbb hb1 hl hbs hback hb2
  have hft : (f : Int) < (s.size : Int) := by omega
  have htt : (t : Int) < (s.size : Int) := by omega
  go_enter Tryz.func65, Tryz.ntmps65
  go_wp2
  go_region
  have hback := Hback.out
  go_wp2
  go_ret
  exact ⟨ret_str rfl, Hb2.out⟩
def okTo (g : Option Int) (t : Int) : Bool := match g with | some x => decide (x = t) | none => false
set_option maxRecDepth 100000 in
set_option maxHeartbeats 1000000 in
theorem can_any (s : ByteArray) (f t : Int) (w : World) (hs : s.size ≤ 1000000) :
    Calls Tryz.prog 64 #[.string s, .agg #[.int .i64 f, .int .i64 t]] w fun e w' => e = .returned (.bool (canZ (bL s) (f, t))) ∧ Below w.heap.size w w' := by
  have hl := bL_length s
  by_cases h : 0 ≤ f ∧ f < s.size
  · obtain ⟨h0, h1⟩ := h
    obtain ⟨i, rfl⟩ := Int.eq_ofNat_of_zero_le h0
    have hi : i < s.size := by omega
    have h2 : (i : Int) ≤ (s.size : Int) - 1 := by omega
    have hcz : canZ (bL s) ((i : Int), t) = (goalZ (bL s) i == some t) := by
      unfold canZ; rw [hl, decide_eq_true h0, decide_eq_true h1]; rfl
    have Hcz := Lib.hid hcz
    cases hg : goalZ (bL s) i with
    | none =>
      have hgo := fun W => goal_none s i W hs hi hg
      have Hg := Lib.hid hg
      clear hg hcz hl
      go_enter Tryz.func64, Tryz.ntmps64
      go_wp2_with (first | (go_at_call 80; refine (within_any _ _ _ _).mono ?_; rintro e w' ⟨rfl, rfl⟩) | (go_at_call 97; refine (hgo _).mono ?_; rintro e w' ⟨rfl, n, rfl⟩))
      go_ret
      exact ⟨ret_bool (by rw [Hcz.out, Hg.out]; rfl), pw_below_drewN ((Below.refl _ _).alloc (Nat.le_refl _) _) n⟩
    | some x =>
      have hgo := fun W => goal_some s i W hs hi hg
      have Hg := Lib.hid hg
      clear hg hcz hl
      go_enter Tryz.func64, Tryz.ntmps64
      go_wp2_with (first | (go_at_call 80; refine (within_any _ _ _ _).mono ?_; rintro e w' ⟨rfl, rfl⟩) | (go_at_call 97; refine (hgo _).mono ?_; rintro e w' ⟨rfl, n, rfl⟩))
      go_ret
      exact ⟨ret_bool (by rw [Hcz.out, Hg.out]; rfl), pw_below_drewN ((Below.refl _ _).alloc (Nat.le_refl _) _) n⟩
  · have hcz : canZ (bL s) (f, t) = false := by
      unfold canZ; rw [hl]
      by_cases h0 : 0 ≤ f
      · rw [decide_eq_false (p := f < _) (fun h1 => h ⟨h0, h1⟩)]; simp
      · rw [decide_eq_false h0]; rfl
    have Hcz := Lib.hid hcz
    have hd : (decide (0 ≤ f) && decide (f ≤ (s.size : Int) - 1)) = false := by
      by_cases h0 : 0 ≤ f
      · rw [decide_eq_false (p := f ≤ _) (by omega)]; simp
      · rw [decide_eq_false h0]; rfl
    clear hcz hl h
    go_enter Tryz.func64, Tryz.ntmps64
    go_wp2_with (first | (go_at_call 80; refine (within_any _ _ _ _).mono ?_; rintro e w' ⟨rfl, rfl⟩))
    go_ret
    exact ⟨ret_bool (by rw [Hcz.out]), (Below.refl _ _).alloc (Nat.le_refl _) _⟩
set_option maxHeartbeats 1000000 in
theorem isJump_any (f t : Int) (w : World) (hf : -1000000 ≤ f ∧ f ≤ 1000000) (ht : -1000000 ≤ t ∧ t ≤ 1000000) :
    Calls Tryz.prog 66 #[.agg #[.int .i64 f, .int .i64 t]] w fun e w' => e = .returned (.bool (jumpZ (f, t))) ∧ Below w.heap.size w w' := by
  obtain ⟨f0, f1⟩ := hf
  obtain ⟨t0, t1⟩ := ht
  go_enter Tryz.func66, Tryz.ntmps66
  go_wp2
  · go_ret
    have h : t - f = 1 := by assumption
    exact ⟨ret_bool (by unfold jumpZ; rw [decide_eq_false (p := (f, t).2 - (f, t).1 ≠ 1) (by simpa using h)]; simp [h]), (Below.refl _ _).alloc (Nat.le_refl _) _⟩
  · go_ret
    have h : ¬ t - f = 1 := by assumption
    exact ⟨ret_bool (by unfold jumpZ; rw [decide_eq_true (p := (f, t).2 - (f, t).1 ≠ 1) (by simpa using h)]; simp only [Bool.true_and, decide_not, bne, beqF h, Bool.not_false]; rfl), (Below.refl _ _).alloc (Nat.le_refl _) _⟩
end Go.Proofs.YtemicglkmnjibaaGreatDoor
