/-
  What the exported functions on lines compute (walks); no condition but on sizes.
-/
import Derived.Test.YtemicglkmnjibaaGreatDoorLineC
namespace Go.Proofs.YtemicglkmnjibaaGreatDoor
open Go.RowKit
set_option linter.unusedVariables false
set_option linter.unusedSimpArgs false
theorem size_of_line {s : ByteArray} {m : Nat} (h : lineB (bL s) m = true) : 1 ≤ s.size ∧ s.size ≤ m := by
  have := lineB_iff.1 h
  rw [bL_length] at this
  exact ⟨this.1, this.2.1⟩
theorem canZ_range {l : List Nat} {f t : Int} (h : canZ l (f, t) = true) : 0 ≤ f ∧ f < l.length ∧ goalZ l f.toNat = some t := by
  unfold canZ at h
  simp only [Bool.and_eq_true, decide_eq_true_eq, beq_iff_eq] at h
  exact ⟨h.1.1, h.1.2, h.2⟩
theorem goalZ_range {l : List Nat} {i : Nat} {t : Int} (h : goalZ l i = some t) : 0 ≤ t ∧ t < l.length := by
  have key : ∀ x : Int, atZ l x = 46 → 0 ≤ x ∧ x < l.length := by
    intro x hx
    constructor
    · apply Decidable.byContradiction; intro hn; rw [atZ_neg (by omega)] at hx; cases hx
    · apply Decidable.byContradiction; intro hn; rw [atZ_ge (by omega)] at hx; cases hx
  unfold goalZ at h
  split at h
  · cases h
  · split at h
    · rename_i h1 h2
      injection h with h; subst h; exact key _ h2
    · split at h
      · rename_i h1 h2 h3
        injection h with h; subst h; exact key _ h3.2
      · cases h
set_option maxHeartbeats 1000000 in
theorem movesIn_any (s ks : ByteArray) (w : World) (hs : s.size ≤ 140737488351232) :
    Calls Tryz.prog 53 #[.string s, .string ks] w fun e w' => ∃ v, e = .returned (.tuple #[v, .bool (lineB (bL s) 12)]) ∧ w'.ownsRow w.heap.size 38 2 v (movesOf (bL s) (bL ks)).length (mvCells (movesOf (bL s) (bL ks))) ∧ Below w.heap.size w w' := by
  by_cases hv : lineB (bL s) 12 = true
  · have hsz := size_of_line hv
    have hm : movesOf (bL s) (bL ks) = movesL (bL s) (bL ks) := by unfold movesOf; rw [if_pos hv]
    have Hm := Lib.hid hm
    clear hm
    go_enter Tryz.func53, Tryz.ntmps53
    go_wp2_with (first | (go_at_call 22; refine (IsLine_any s _ hs).mono ?_; rintro e w1 ⟨rfl, hb1⟩) | (go_at_call 92; refine (moves_any s ks _ (by omega)).mono ?_; rintro e w2 ⟨v, rfl, hown, hb2⟩))
    go_ret2
    refine ⟨v, by rw [hv]; rfl, ?_, bel_trans hb1 hb2⟩
    rw [Hm.out]
    exact ownsRow_base hown hb1.size
  · have hf : lineB (bL s) 12 = false := by simpa using hv
    have hm : movesOf (bL s) (bL ks) = [] := by unfold movesOf; rw [if_neg hv]
    have Hm := Lib.hid hm
    clear hm hv
    go_enter Tryz.func53, Tryz.ntmps53
    go_wp2_with (go_at_call 22; refine (IsLine_any s _ hs).mono ?_; rintro e w1 ⟨rfl, hb1⟩)
    go_ret2
    refine ⟨_, by rw [hf]; rfl, ?_, hb1⟩
    rw [Hm.out]
    exact World.ownsRow_nil _ _ _ _
theorem MovesOf_any (s : ByteArray) (w : World) (hs : s.size ≤ 140737488351232) :
    Calls Tryz.prog 7 #[.string s] w fun e w' => ∃ v, e = .returned (.tuple #[v, .bool (lineB (bL s) 12)]) ∧ w'.ownsRow w.heap.size 38 2 v (movesOf (bL s) TF).length (mvCells (movesOf (bL s) TF)) ∧ Below w.heap.size w w' := by
  have hmi := fun W => movesIn_any s ⟨#[84, 70]⟩ W hs
  rw [show bL ⟨#[84, 70]⟩ = TF from rfl] at hmi
  go_enter Tryz.func7, Tryz.ntmps7
  go_wp2_with (go_at_call 53; refine (hmi _).mono ?_; rintro e w1 ⟨v, rfl, hown, hb⟩)
  go_ret2
  exact ⟨v, rfl, hown, hb⟩
theorem ToadMoves_any (s : ByteArray) (w : World) (hs : s.size ≤ 140737488351232) :
    Calls Tryz.prog 9 #[.string s] w fun e w' => ∃ v, e = .returned (.tuple #[v, .bool (lineB (bL s) 12)]) ∧ w'.ownsRow w.heap.size 38 2 v (movesOf (bL s) [84]).length (mvCells (movesOf (bL s) [84])) ∧ Below w.heap.size w w' := by
  have hmi := fun W => movesIn_any s ⟨#[84]⟩ W hs
  rw [show bL ⟨#[84]⟩ = [84] from rfl] at hmi
  go_enter Tryz.func9, Tryz.ntmps9
  go_wp2_with (go_at_call 53; refine (hmi _).mono ?_; rintro e w1 ⟨v, rfl, hown, hb⟩)
  go_ret2
  exact ⟨v, rfl, hown, hb⟩
theorem FrogMoves_any (s : ByteArray) (w : World) (hs : s.size ≤ 140737488351232) :
    Calls Tryz.prog 11 #[.string s] w fun e w' => ∃ v, e = .returned (.tuple #[v, .bool (lineB (bL s) 12)]) ∧ w'.ownsRow w.heap.size 38 2 v (movesOf (bL s) [70]).length (mvCells (movesOf (bL s) [70])) ∧ Below w.heap.size w w' := by
  have hmi := fun W => movesIn_any s ⟨#[70]⟩ W hs
  rw [show bL ⟨#[70]⟩ = [70] from rfl] at hmi
  go_enter Tryz.func11, Tryz.ntmps11
  go_wp2_with (go_at_call 53; refine (hmi _).mono ?_; rintro e w1 ⟨v, rfl, hown, hb⟩)
  go_ret2
  exact ⟨v, rfl, hown, hb⟩
set_option maxHeartbeats 1000000 in
theorem CanMove_any (s : ByteArray) (f t : Int) (w : World) (hs : s.size ≤ 140737488351232) :
    Calls Tryz.prog 25 #[.string s, .agg #[.int .i64 f, .int .i64 t]] w fun e w' => e = .returned (.tuple #[.bool (mkOk (bL s) (f, t)), .bool (lineB (bL s) 12)]) ∧ Below w.heap.size w w' := by
  by_cases hv : lineB (bL s) 12 = true
  · have hsz := size_of_line hv
    have hm : mkOk (bL s) (f, t) = canZ (bL s) (f, t) := by unfold mkOk; rw [hv]; rfl
    have Hm := Lib.hid hm
    clear hm
    go_enter Tryz.func25, Tryz.ntmps25
    go_wp2_with (first | (go_at_call 22; refine (IsLine_any s _ hs).mono ?_; rintro e w1 ⟨rfl, hb1⟩; obtain ⟨m0, m1⟩ := box2 hb1) | (go_at_call 64; refine (can_any s f t _ (by omega)).mono ?_; rintro e w2 ⟨rfl, hb2⟩))
    go_ret2
    exact ⟨by rw [Hm.out, hv]; rfl, bel_trans (bel_box hb1) hb2⟩
  · have hf : lineB (bL s) 12 = false := by simpa using hv
    have hm : mkOk (bL s) (f, t) = false := by unfold mkOk; rw [hf]; rfl
    have Hm := Lib.hid hm
    clear hm hv
    go_enter Tryz.func25, Tryz.ntmps25
    go_wp2_with (go_at_call 22; refine (IsLine_any s _ hs).mono ?_; rintro e w1 ⟨rfl, hb1⟩)
    go_ret2
    exact ⟨by rw [Hm.out, hf]; rfl, bel_box hb1⟩
end Go.Proofs.YtemicglkmnjibaaGreatDoor
