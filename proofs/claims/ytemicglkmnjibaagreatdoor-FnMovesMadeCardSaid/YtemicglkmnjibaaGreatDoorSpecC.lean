/-
  What the reference's functions compute that list the moves of a line (walks); no condition but on sizes.
-/
import Derived.Test.YtemicglkmnjibaaGreatDoorSpecB
import Derived.Lib.OthersKept
namespace Go.Proofs.YtemicglkmnjibaaGreatDoor
open Go.RowKit
set_option linter.unusedVariables false
set_option linter.unusedSimpArgs false
/-- The moves from one cell, as the reference goes through the five cells around it. -/
def around (l : List Nat) (i : Nat) (k : Nat) : List (Int × Int) := (List.range k).filterMap fun q : Nat => if canZ l ((i : Int), (i : Int) - 2 + q) = true then some ((i : Int), (i : Int) - 2 + q) else none
theorem around_succ (l : List Nat) (i k : Nat) : around l i (k + 1) = around l i k ++ (if canZ l ((i : Int), (i : Int) - 2 + k) = true then [((i : Int), (i : Int) - 2 + k)] else []) := by
  unfold around
  rw [List.range_succ, List.filterMap_append]
  congr 1
  by_cases h : canZ l ((i : Int), (i : Int) - 2 + k) = true <;> simp [h]
theorem goal_near {l : List Nat} {i : Nat} {t : Int} (h : goalZ l i = some t) : t = i + 1 ∨ t = i + 2 ∨ t = (i : Int) - 1 ∨ t = (i : Int) - 2 := by
  have hb := stepZ_bd (chN l i)
  unfold goalZ at h
  split at h
  · cases h
  · split at h
    · injection h with h; omega
    · split at h
      · injection h with h; omega
      · cases h
theorem filterMap_one {α : Type} (d : Nat) (f : Nat → α) (P : Nat → Bool) (h : ∀ q, P q = true ↔ q = d) : ∀ n, (List.range n).filterMap (fun q => if P q = true then some (f q) else none) = if d < n then [f d] else [] := by
  intro n
  induction n with
  | zero => simp
  | succ n ih =>
    rw [List.range_succ, List.filterMap_append, ih]
    by_cases h1 : d < n
    · have : ¬ P n = true := by rw [h]; omega
      rw [if_pos h1, if_pos (by omega)]; simp [this]
    · by_cases h2 : d = n
      · subst h2
        rw [if_neg h1, if_pos (by omega)]; simp [(h d).2 rfl]
      · have : ¬ P n = true := by rw [h]; omega
        rw [if_neg h1, if_neg (by omega)]; simp [this]
theorem filterMap_zero {α : Type} (f : Nat → α) (P : Nat → Bool) (h : ∀ q, P q = false) (n : Nat) : (List.range n).filterMap (fun q => if P q = true then some (f q) else none) = [] := by
  simp [h]
theorem around_five {l : List Nat} {i : Nat} (h : i < l.length) : around l i 5 = ((goalZ l i).map fun t => ((i : Int), t)).toList := by
  have hc : ∀ q : Nat, canZ l ((i : Int), (i : Int) - 2 + q) = (goalZ l i == some ((i : Int) - 2 + q)) := fun q => canZ_at h _
  unfold around
  cases hg : goalZ l i with
  | none => exact filterMap_zero _ (fun q : Nat => canZ l ((i : Int), (i : Int) - 2 + q)) (fun q => by rw [hc, hg]; rfl) 5
  | some t =>
    have hn := goal_near hg
    have hd : t = (i : Int) - 2 + ((t - i + 2).toNat : Nat) := by omega
    have := filterMap_one (t - i + 2).toNat (fun q : Nat => ((i : Int), (i : Int) - 2 + q)) (fun q : Nat => canZ l ((i : Int), (i : Int) - 2 + q)) (fun q => by
      rw [hc, hg, beq_iff_eq]
      constructor
      · intro h; injection h with h; omega
      · intro h; subst h; rw [← hd]) 5
    rw [this, if_pos (by omega)]
    simp; omega
theorem iter_cells {w : World} {base : Nat} {e : TypeId} {size n : Nat} {v : Value} {xs : List Value} (h : w.ownsRow base e size v n xs) {k : Nat} {s : ByteArray} {pos : Nat} (hk : w.heap[k]? = some (.stringIter s pos)) (pos' : Nat) :
    (w.iterAt k s pos').ownsRow base e size v n xs := by
  refine ⟨h.1, ?_⟩
  rcases h.2 with hn | ⟨g, cap, cur, hv, hbg, hg, rest⟩
  · exact .inl hn
  · have hkg : g ≠ k := by
      intro e1
      rw [e1, hk] at hg
      cases hg
    exact .inr ⟨g, cap, cur, hv, hbg, (Lib.iterAt_other w k g s pos' hkg).trans hg, rest⟩
/-- An iterator is no row of cells: what an append does leaves it. -/
theorem iter_grown {w w' : World} {base : Nat} {e : TypeId} {size n : Nat} {v : Value} {xs : List Value} (h : w.ownsRow base e size v n xs) {k : Nat} {s : ByteArray} {pos : Nat} (hk : w.heap[k]? = some (.stringIter s pos)) (hg : w.grownBy w' v.ownBlock) : w'.heap[k]? = some (.stringIter s pos) := by
  have hlt : k < w.heap.size := (Array.getElem?_eq_some_iff.1 hk).1
  rw [hg.block k hlt ?_, hk]
  intro e1
  rcases h.2 with ⟨rfl, _⟩ | ⟨g, cap, cur, rfl, _, hh, _⟩
  · simp [Value.ownBlock] at e1
  · simp [Value.ownBlock] at e1
    subst e1
    rw [hk] at hh
    cases hh
theorem iter_below {w w' : World} {k : Nat} {s : ByteArray} {pos : Nat} (hk : w.heap[k]? = some (.stringIter s pos)) (hb : Below w.heap.size w w') : w'.heap[k]? = some (.stringIter s pos) :=
  (hb.block k (Array.getElem?_eq_some_iff.1 hk).1).trans hk
theorem le_box {w wi w1 : World} {o o2 : Obj} (hb : Below w.heap.size w wi) (h : Below (wi.alloc o).heap.size (wi.alloc o) w1) : w.heap.size ≤ (w1.alloc o2).heap.size := by
  have h1 := hb.size
  have h2 := h.size
  simp at h2 ⊢
  omega
def kindsOf (t f : Bool) : List Nat := (if t then [84] else []) ++ (if f then [70] else [])
set_option maxRecDepth 100000 in
set_option maxHeartbeats 4000000 in
theorem liMoves_any (s : ByteArray) (tt ff : Bool) (w : World) (hs : s.size ≤ 1000000) (hsg : ∀ c ∈ bL s, isSign c = true) :
    Calls Tryz.prog 55 #[.string s, .bool tt, .bool ff] w fun e w' => ∃ v, e = .returned v ∧ w'.ownsRow w.heap.size 38 2 v (movesL (bL s) (kindsOf tt ff)).length (mvCells (movesL (bL s) (kindsOf tt ff))) ∧ Below w.heap.size w w' := by
  obtain ⟨i0, hi, hz0, hz1, hz2⟩ := info_parts infoMove
  have hl := bL_length s
  have Hl := Lib.hid hl
  clear hl
  go_enter Tryz.func55, Tryz.ntmps55
  go_wp2
  go_loopg [7] s.size (fun kq v wr => ∃ k : Nat, k ≤ s.size ∧ s.size ≤ kq + k ∧ wr.heap[w.heap.size]? = some (.stringIter s k) ∧ wr.ownsRow w.heap.size 38 2 v (movesUpto (bL s) (kindsOf tt ff) k).length (mvCells (movesUpto (bL s) (kindsOf tt ff) k)) ∧ Below w.heap.size w wr)
  case atStart => exact ⟨0, Nat.zero_le _, by omega, World.iter_heap w s 0, World.ownsRow_nil _ _ _ _, (Below.refl _ _).alloc (Nat.le_refl _) _⟩
  case round =>
    obtain ⟨k, hk, hkq, hit, hown, hb⟩ := hrel
    by_cases hlt : k < s.size
    · have hkl : k < (bL s).length := by rw [Hl.out]; exact hlt
      have hc := chN_eq s hlt
      have hsig : isSign (chN (bL s) k) = true := by rw [chN_of_lt hkl]; exact hsg _ (List.getElem_mem hkl)
      have hnext := fun ty => Lib.run_next_ascii_at (P := Tryz.prog) wr w.heap.size s k ty hit hlt (by rw [hc]; rcases isSign_iff.1 hsig with h | h | h <;> omega)
      have hit2 := Lib.iterAt_heap wr w.heap.size s k (k + 1) hit
      have hown2 := iter_cells hown hit (k + 1)
      have hb2 := Lib.below_iterAt hb (Nat.le_refl _) s (k + 1)
      have hml := movesUpto_length (bL s) (kindsOf tt ff) k
      obtain ⟨W2, hW2⟩ : ∃ W2, wr.iterAt w.heap.size s (k + 1) = W2 := ⟨_, rfl⟩
      rw [hW2] at hit2 hown2 hb2
      simp only [hW2] at hnext
      clear hW2 hit hown hb
      by_cases hskip : (chN (bL s) k = 84 ∧ tt = false) ∨ (chN (bL s) k = 70 ∧ ff = false)
      · have hu : movesUpto (bL s) (kindsOf tt ff) (k + 1) = movesUpto (bL s) (kindsOf tt ff) k := by
          rw [movesUpto_succ]
          have : moveAt (bL s) (kindsOf tt ff) k = none := by
            unfold moveAt kindsOf
            rcases hskip with ⟨h1, rfl⟩ | ⟨h1, rfl⟩
            · rw [h1, if_neg]; cases ff <;> simp
            · rw [h1, if_neg]; cases tt <;> simp
          rw [this]; simp
        have Hu := Lib.hid hu
        clear hu hsig
        rcases hskip with ⟨h1, rfl⟩ | ⟨h1, rfl⟩
        · have e84 : ((chN (bL s) k : Int) == 84) = true := beqT (by omega)
          clear h1
          go_wp2
          go_roundg (s.size - (k + 1))
          case measure => omega
          case rel => exact ⟨k + 1, by omega, by omega, hit2, by rw [Hu.out]; exact hown2, hb2⟩
        · have e84 : ((chN (bL s) k : Int) == 84) = false := beqF (by omega)
          have e70 : ((chN (bL s) k : Int) == 70) = true := beqT (by omega)
          clear h1
          go_wp2
          go_roundg (s.size - (k + 1))
          case measure => omega
          case rel => exact ⟨k + 1, by omega, by omega, hit2, by rw [Hu.out]; exact hown2, hb2⟩
      · have hu : movesUpto (bL s) (kindsOf tt ff) (k + 1) = movesUpto (bL s) (kindsOf tt ff) k ++ around (bL s) k 5 := by
          rw [movesUpto_succ, around_five hkl]
          congr 2
          unfold moveAt kindsOf
          rcases isSign_iff.1 hsig with h | h | h
          · have : tt = true := by cases tt with | true => rfl | false => exact absurd (.inl ⟨h, rfl⟩) hskip
            rw [h, if_pos (by rw [this]; simp)]
          · have : ff = true := by cases ff with | true => rfl | false => exact absurd (.inr ⟨h, rfl⟩) hskip
            rw [h, if_pos (by rw [this]; simp)]
          · rw [h, if_neg (by cases tt <;> cases ff <;> simp), goal_none_of (by omega) (by omega)]; rfl
        have Hu := Lib.hid hu
        have hcs : ((((chN (bL s) k : Int) == 84) = true ∧ ((chN (bL s) k : Int) == 70) = false) ∧ tt = true) ∨ ((((chN (bL s) k : Int) == 84) = false ∧ ((chN (bL s) k : Int) == 70) = true) ∧ ff = true) ∨ (((chN (bL s) k : Int) == 84) = false ∧ ((chN (bL s) k : Int) == 70) = false) := by
          rcases isSign_iff.1 hsig with h | h | h
          · left; refine ⟨⟨beqT (by omega), beqF (by omega)⟩, ?_⟩
            cases tt with | true => rfl | false => exact absurd (.inl ⟨h, rfl⟩) hskip
          · right; left; refine ⟨⟨beqF (by omega), beqT (by omega)⟩, ?_⟩
            cases ff with | true => rfl | false => exact absurd (.inr ⟨h, rfl⟩) hskip
          · right; right; exact ⟨beqF (by omega), beqF (by omega)⟩
        clear hu hsig hskip
        rcases hcs with ⟨⟨e84, e70⟩, rfl⟩ | ⟨⟨e84, e70⟩, rfl⟩ | ⟨e84, e70⟩
        all_goals
          go_wp2
          go_loopg [7, 9] 5 (fun kq v t wi => ∃ q : Nat, q ≤ 5 ∧ 5 ≤ kq + q ∧ t = .int .i64 ((k : Int) - 2 + q) ∧ wi.heap[w.heap.size]? = some (.stringIter s (k + 1)) ∧ wi.ownsRow w.heap.size 38 2 v ((movesUpto (bL s) (kindsOf _ _) k) ++ around (bL s) k q).length (mvCells ((movesUpto (bL s) (kindsOf _ _) k) ++ around (bL s) k q)) ∧ Below w.heap.size w wi)
          case atStart => exact ⟨0, by omega, by omega, by simp, hit2, by simpa [around] using hown2, hb2⟩
          case round =>
            obtain ⟨q, hq, hq5, rfl, hit, hown, hb⟩ := hrel
            have hal : (around (bL s) k q).length ≤ q := by unfold around; have := List.length_filterMap_le (fun q : Nat => if canZ (bL s) ((k : Int), (k : Int) - 2 + q) = true then some ((k : Int), (k : Int) - 2 + (q : Int)) else none) (List.range q); simpa using this
            by_cases hq4 : q < 5
            · by_cases hcn : canZ (bL s) ((k : Int), (k : Int) - 2 + q) = true
              · have hua := around_succ (bL s) k q
                rw [if_pos hcn] at hua
                have Hua := Lib.hid hua
                clear hua
                go_wp2_with (first
                  | (go_at_call 68; refine (liCan_any s _ _ _ hs).mono ?_; rintro e w1 ⟨rfl, hb1⟩; obtain ⟨m0, m1⟩ := box2 hb1)
                  | (at_builtin; refine wpList_append_own _ rfl (.tmp 48) (.tmp 50) 25 rfl w.heap.size 38 i0 (.agg #[.int .i64 0, .int .i64 0]) 2 16 Tryz.underlying25 hi hz0 hz1 hz2 rfl (by decide) _ _ _ rfl ((own_below (hown.alloc _) hb1).alloc _) ⟨w1.heap.size, 0, none⟩ 1 1 [.int .i64 k, .int .i64 ((k : Int) - 2 + q)] rfl rfl (new_cells _) (by simp [Value.oneCell']) (by simp only [maxLen, List.length_append]; omega) (by simp only [List.length_append]; omega) (le_box hb hb1) ?_; intro v' w2 hown' hgrow _))
                go_roundg (5 - (q + 1))
                case measure => omega
                case rel => exact ⟨q + 1, by omega, by omega, by congr 1; omega, iter_grown ((own_below (hown.alloc _) hb1).alloc _) (iter_below (iter_below (iter_below hit ((Below.refl _ _).alloc (Nat.le_refl _) _)) hb1) ((Below.refl _ _).alloc (Nat.le_refl _) _)) hgrow, by rw [Hua.out, ← List.append_assoc, mvCells_append, List.length_append (bs := [_])]; exact hown', below_own ((bel_trans hb (bel_box hb1)).alloc (bel_trans hb (bel_box hb1)).size _) ((own_below (hown.alloc _) hb1).alloc _) hgrow⟩
              · have hcf : canZ (bL s) ((k : Int), (k : Int) - 2 + q) = false := by simpa using hcn
                have hua := around_succ (bL s) k q
                rw [if_neg hcn, List.append_nil] at hua
                have Hua := Lib.hid hua
                clear hua hcn
                go_wp2_with (go_at_call 68; refine (liCan_any s _ _ _ hs).mono ?_; rintro e w1 ⟨rfl, hb1⟩)
                go_roundg (5 - (q + 1))
                case measure => omega
                case rel => exact ⟨q + 1, by omega, by omega, by congr 1; omega, iter_below (iter_below hit ((Below.refl _ _).alloc (Nat.le_refl _) _)) hb1, by rw [Hua.out]; exact own_below (hown.alloc _) hb1, bel_trans hb (bel_box hb1)⟩
            · have hq5e : q = 5 := by omega
              have hown5 := hown
              rw [hq5e, ← Hu.out] at hown5
              have Hown5 := Lib.hid hown5
              clear hown5 hq5e hown
              go_wp2
              go_roundg (s.size - (k + 1))
              case measure => omega
              case rel => exact ⟨k + 1, by omega, by omega, hit, Hown5.out, hb⟩
    · have hnext := fun ty => Lib.run_next_end_at (P := Tryz.prog) wr w.heap.size s k ty hit hlt
      go_wp2
      go_ret
      have hke : k = s.size := by omega
      subst hke
      refine ⟨_, rfl, ?_, hb⟩
      have : movesL (bL s) (kindsOf tt ff) = movesUpto (bL s) (kindsOf tt ff) s.size := by unfold movesL; rw [Hl.out]
      rw [this]
      exact hown
end Go.Proofs.YtemicglkmnjibaaGreatDoor
