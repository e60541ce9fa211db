/-
  A line and a move that are drawn (walks); no condition but on sizes.
-/
import Derived.Test.YtemicglkmnjibaaGreatDoorLawsA
import Derived.Deep.RegionHeld3
import Derived.StillTailTactics
namespace Go.Proofs.YtemicglkmnjibaaGreatDoor
open Go.RowKit
set_option linter.unusedVariables false
set_option linter.unusedSimpArgs false
theorem movesOf_length (l ks : List Nat) : (movesOf l ks).length ≤ l.length := by
  unfold movesOf
  split
  · exact movesUpto_length l ks _
  · simp
theorem pick_mv (g : Nat) (A : Option Addr) (n c M B B2 : Nat) (ad : Addr) (ms : List (Int × Int)) (w : World) (hB : B ≤ g) (hcode : Code w B A n) (hcur : Cur w g A n c M) (hM : M ≤ 900000000) (hm : MvAt w B2 (some ad) ms) (h1 : 1 ≤ ms.length) (h2 : ms.length ≤ 1000000) (hne : ad.block ≠ g) :
    Calls Tryz.prog 83 #[.pointer (some ⟨g, 0, none⟩), .int .i64 ms.length] w fun e w' => ∃ (j : Nat) (f t : Int), e = .returned (.int .i64 j) ∧ (j : Int) < ms.length ∧ w'.cell? (ad.add (j * 2)) = some (.int .i64 f) ∧ w'.cell? ⟨(ad.add (j * 2)).block, (ad.add (j * 2)).off + 1, none⟩ = some (.int .i64 t) ∧ Cur w' g A n c (M + 2) ∧ w.grownBy w' (some g) := by
  refine (pick_any g A n c M B ms.length w hB hcode hcur hM (by omega) (by omega)).mono ?_
  rintro e w4 ⟨r, rfl, ⟨hr0, hr1⟩, hcur4, hg4⟩
  obtain ⟨j, rfl⟩ := Int.eq_ofNat_of_zero_le hr0
  have hjn : (j : Int) < ms.length := hr1 (by omega)
  have hj2 : j < ms.length := by omega
  obtain ⟨ae, had, hbl, x1, x2⟩ := hm.2 j _ _ (List.getElem?_eq_getElem hj2)
  injection had with had
  subst had
  exact ⟨j, _, _, rfl, hjn, hg4.cell x1 (by rw [block_add]; intro e; injection e with e; exact hne e), hg4.cell x2 (by show some (ad.add _).block ≠ _; rw [block_add]; intro e; injection e with e; exact hne e), hcur4, hg4⟩
theorem MvAt.only {w w' : World} {g B : Nat} {ad : Addr} {ms : List (Int × Int)} (h : MvAt w B (some ad) ms) (hB : B ≤ w.heap.size) (hne : ad.block ≠ g) (hg : w.grownBy w' (some g)) : MvAt w' B (some ad) ms := by
  refine ⟨h.1, fun j f t hj => ?_⟩
  obtain ⟨ae, h1, h2, h3, h4⟩ := h.2 j f t hj
  injection h1 with h1
  subst h1
  exact ⟨ad, rfl, h2, hg.cell h3 (by rw [block_add]; intro e; injection e with e; exact hne e), hg.cell h4 (by show some (ad.add _).block ≠ _; rw [block_add]; intro e; injection e with e; exact hne e)⟩
theorem res_cells {w : World} {g : Nat} {x y : Value} {T : TypeId} (h : w.heap[g]? = some (.cells #[x, y] T (0, 0))) : w.cell? ⟨g, 0, none⟩ = some x ∧ w.cell? ⟨g, 1, none⟩ = some y ∧ w.frozen? ⟨g, 0, none⟩ = false ∧ w.frozen? ⟨g, 1, none⟩ = false := by
  refine ⟨?_, ?_, ?_, ?_⟩ <;> simp [World.cell?, World.frozen?, h]
theorem res_final {w : World} {g : Nat} {x y f t : Value} {T : TypeId} (h : w.heap[g]? = some (.cells #[x, y] T (0, 0))) : ((w.setCell ⟨g, 0, none⟩ f).setCell ⟨g, 1, none⟩ t).cell? ⟨g, 0, none⟩ = some f ∧ ((w.setCell ⟨g, 0, none⟩ f).setCell ⟨g, 1, none⟩ t).cell? ⟨g, 1, none⟩ = some t := by
  have h1 := cur_set h 0 f
  have h2 := cur_set h1 1 t
  constructor <;> simp [World.cell?, h2]
theorem below_step {w W W' : World} {g : Nat} (h : Below w.heap.size w W) (hg : W.grownBy W' (some g)) (hgw : w.heap.size ≤ g) : Below w.heap.size w W' :=
  ⟨hg.os.trans h.os, hg.tape.trans h.tape, hg.output.trans h.output, Nat.le_trans h.size hg.size, fun i hi => (hg.block i (Nat.lt_of_lt_of_le hi h.size) (by intro e; injection e; omega)).trans (h.block i hi)⟩
set_option maxRecDepth 100000 in
set_option maxHeartbeats 4000000 in
theorem DrawCanMove_any (A : Option Addr) (n c : Nat) (w : World) (hcode : Code w w.heap.size A n) :
    Calls Tryz.prog 67 #[.slice A n c] w fun e w' => ∃ (s : ByteArray) (f t : Int), e = .returned (.tuple #[.string s, .agg #[.int .i64 f, .int .i64 t]]) ∧ s.size ≤ 20 ∧ Below w.heap.size w w' := by
  have hl := Lib.hid (line_any (w.heap.size + 1) A n c 0 w.heap.size ((w.alloc (.cells #[.int .i64 0, .int .i64 0] 38)).alloc (.cells #[.slice A n c, .int .i64 0, .int .u64 0] 75)) (by omega) ((hcode.alloc (Nat.le_refl _) _).alloc (by simp) _) (by have := new_cur (w.alloc (.cells #[.int .i64 0, .int .i64 0] 38)) A n c; simpa using this) (by omega))
  go_enter Tryz.func67, Tryz.ntmps67
  go_wp2_with fail
  refine hl.out.mono ?_
  rintro e w1 ⟨s, rfl, hs, hcur, hg⟩
  have hcd : Code w1 w.heap.size A n := ((hcode.alloc (Nat.le_refl _) _).alloc (by simp) _).only (g := w.heap.size + 1) (by omega) (by simp; omega) hg
  go_wp2_with fail
  refine (specMovesOf_any s _ (by omega)).mono ?_
  rintro e w2 ⟨v, rfl, hown, hb⟩
  obtain ⟨A3, c3, rfl, hmv⟩ := own_MvAt hown (by have := movesOf_length (bL s) TF; rw [bL_length] at this; omega)
  have hcd2 := hcd.keep (w' := w2) fun i hi => hb.block i (by have := hg.size; simp at this; omega)
  have hcur2 := hcur.below hb
  have hlt2 := hcur2.lt
  have hr1 : w1.heap[w.heap.size]? = some (.cells #[.int .i64 0, .int .i64 0] 38 (0, 0)) := by
    rw [hg.block w.heap.size (by simp; omega) (by intro e; injection e; omega), Below.heap_alloc _ _ _ (by simp)]
    exact heap_alloc_new w _
  have hb1 : Below w.heap.size w w1 := below_step (((Below.refl _ _).alloc (Nat.le_refl _) _).alloc (by simp) _) hg (by omega)
  have hb2 : Below w.heap.size w w2 := bel_trans hb1 hb
  have hr2 := (hb.block w.heap.size (by have := hg.size; simp at this; omega)).trans hr1
  have hbs : w.heap.size ≤ w2.heap.size := by omega
  have hml := movesOf_length (bL s) TF
  rw [bL_length] at hml
  by_cases h3 : lineB (bL s) 12 = true ∧ 0 < (movesOf (bL s) TF).length
  · have g1 : lineB (bL s) 12 = true := h3.1
    have g2 : decide ((0 : Int) < (movesOf (bL s) TF).length) = true := decide_eq_true (by omega)
    generalize movesOf (bL s) TF = ms at *
    obtain ⟨ad, rfl, -⟩ := hmv.2 0 _ _ (List.getElem?_eq_getElem h3.2)
    have hne : ad.block ≠ w.heap.size + 1 := by have := (hown.lt ad.block rfl).1; have := hcur.lt; omega
    go_wp2_with fail
    refine (one_any (w.heap.size + 1) A n c _ w.heap.size 3 _ (by omega) hcd2 hcur2 (by omega) (by omega) (by omega)).mono ?_
    rintro e w3 ⟨b, rfl, hcur3, hg3⟩
    cases b with
    | false =>
      have hcd3 := hcd2.only (by omega) hbs hg3
      have hb3 : Below w.heap.size w w3 := below_step hb2 hg3 (by omega)
      have hr3 := (hg3.block w.heap.size (by omega) (by intro e; injection e; omega)).trans hr2
      have hs3 : w.heap.size < w3.heap.size := by have := hcur3.lt; omega
      have hmv3 := hmv.only (Nat.le_refl _) hne hg3
      have Hpk := Lib.hid (pick_mv (w.heap.size + 1) A n c _ w.heap.size w2.heap.size ad ms w3.drew (by omega) (show Code w3.drew w.heap.size A n from hcd3) (show Cur w3.drew (w.heap.size + 1) A n c _ from hcur3) (by omega) (show MvAt w3.drew w2.heap.size (some ad) ms from hmv3) h3.2 (by omega) hne)
      clear hmv hmv3 h3
      go_wp2_with fail
      go_region_with (go_at_call 83; refine Hpk.out.mono ?_; rintro e w4 ⟨j, f, t, rfl, hjn, y1, y2, hcur4, hg4⟩; have hr4 := hg4.block w.heap.size (by show _ < w3.heap.size; omega) (by intro e; injection e; omega); obtain ⟨k0, k1, k2, k3⟩ := res_cells (hr4.trans hr3); obtain ⟨q0, q1⟩ := res_final (f := .int .i64 f) (t := .int .i64 t) (hr4.trans hr3))
      go_wp2
      refine bodyPost_ret (v := .tuple #[.string s, .agg #[.int .i64 f, .int .i64 t]]) (by simp [results, Tryz.results67, go_sem, q0, q1]) rfl ⟨s, f, t, rfl, hs, ?_⟩
      exact ((below_step hb3 (W' := w4) (g := w.heap.size + 1) ⟨hg4.os, hg4.tape, hg4.output, hg4.size, hg4.block⟩ (by omega)).setCell (Nat.le_refl _) _).setCell (Nat.le_refl _) _
    | true =>
      have hcd3 := hcd2.only (g := w.heap.size + 1) (by omega) hbs hg3
      have hr3 := (hg3.block w.heap.size (by omega) (by intro e; injection e; omega)).trans hr2
      have hs3 : w.heap.size + 1 < w3.heap.size := hcur3.lt
      have hb3 : Below w.heap.size w w3 := below_step hb2 hg3 (by omega)
      clear hmv hown h3 g1 g2
      have hcdA := hcd3.alloc (by omega) (.cells #[.int .i64 0, .int .i64 1, .int .i64 2, .int .i64 3, .int .i64 (-1), .int .i64 12, .int .i64 4611686018427387904] 3)
      have hcurA := hcur3.alloc (.cells #[.int .i64 0, .int .i64 1, .int .i64 2, .int .i64 3, .int .i64 (-1), .int .i64 12, .int .i64 4611686018427387904] 3)
      have hnA : Nums (w3.alloc (.cells #[.int .i64 0, .int .i64 1, .int .i64 2, .int .i64 3, .int .i64 (-1), .int .i64 12, .int .i64 4611686018427387904] 3)) (w3.heap.size + 1) (some ⟨w3.heap.size, 0, none⟩) 7 := new_nums w3 3 [0, 1, 2, 3, -1, 12, 4611686018427387904] (by simp)
      go_wp2_with fail
      refine (among_any (w.heap.size + 1) A n c _ w.heap.size _ 7 7 (w3.heap.size + 1) _ (by omega) hcdA hcurA (by omega) hnA (by omega) (by intro ad e; injection e with e; subst e; show w3.heap.size ≠ _; omega)).mono ?_
      rintro e w5 ⟨f, rfl, hcur5, hg5⟩
      have hz5 := hg5.size
      have hcd5 := hcdA.only (g := w.heap.size + 1) (by omega) (by simp; omega) hg5
      have hr5 : w5.heap[w.heap.size]? = some (.cells #[.int .i64 0, .int .i64 0] 38 (0, 0)) := by
        rw [hg5.block w.heap.size (by simp; omega) (by intro e; injection e; omega), Below.heap_alloc _ _ _ (by omega)]
        exact hr3
      have hb5 : w3.grownBy w5 (some (w.heap.size + 1)) := only_then (only_alloc (World.grownBy.refl _ _) _) hg5
      simp at hz5
      have hcdB := hcd5.alloc (by omega) (.cells #[.int .i64 0, .int .i64 1, .int .i64 2, .int .i64 3, .int .i64 (-1), .int .i64 12, .int .i64 (-9223372036854775808)] 3)
      have hcurB := hcur5.alloc (.cells #[.int .i64 0, .int .i64 1, .int .i64 2, .int .i64 3, .int .i64 (-1), .int .i64 12, .int .i64 (-9223372036854775808)] 3)
      have hnB : Nums (w5.alloc (.cells #[.int .i64 0, .int .i64 1, .int .i64 2, .int .i64 3, .int .i64 (-1), .int .i64 12, .int .i64 (-9223372036854775808)] 3)) (w5.heap.size + 1) (some ⟨w5.heap.size, 0, none⟩) 7 := new_nums w5 3 [0, 1, 2, 3, -1, 12, -9223372036854775808] (by simp)
      go_wp2_with fail
      refine (among_any (w.heap.size + 1) A n c _ w.heap.size _ 7 7 (w5.heap.size + 1) _ (by omega) hcdB hcurB (by omega) hnB (by omega) (by intro ad e; injection e with e; subst e; show w5.heap.size ≠ _; omega)).mono ?_
      rintro e w6 ⟨t, rfl, hcur6, hg6⟩
      have hr6 : w6.heap[w.heap.size]? = some (.cells #[.int .i64 0, .int .i64 0] 38 (0, 0)) := by
        rw [hg6.block w.heap.size (by simp; omega) (by intro e; injection e; omega), Below.heap_alloc _ _ _ (by omega)]
        exact hr5
      have hb6 : w3.grownBy w6 (some (w.heap.size + 1)) := only_then (only_alloc hb5 _) hg6
      obtain ⟨k0, k1, k2, k3⟩ := res_cells hr6
      obtain ⟨q0, q1⟩ := res_final (f := .int .i64 f) (t := .int .i64 t) hr6
      go_wp2
      refine bodyPost_ret (v := .tuple #[.string s, .agg #[.int .i64 f, .int .i64 t]]) (by simp [results, Tryz.results67, go_sem, q0, q1]) rfl ⟨s, f, t, rfl, hs, ?_⟩
      exact ((below_step hb3 hb6 (by omega)).setCell (Nat.le_refl _) _).setCell (Nat.le_refl _) _
  · have hcd3 := hcd2
    have hcur3 := hcur2
    have hr3 := hr2
    have hb3 := hb2
    have hs3 : w.heap.size + 1 < w2.heap.size := hcur2.lt
    clear hmv hown
    by_cases hv : lineB (bL s) 12 = true
    · have hms : movesOf (bL s) TF = [] := List.eq_nil_of_length_eq_zero (by have : ¬ 0 < (movesOf (bL s) TF).length := fun h => h3 ⟨hv, h⟩; omega)
      rw [hms]
      clear hml h3 hms
      simp only [List.length_nil]
      rename World => w3
      have hcdA := hcd3.alloc (by omega) (.cells #[.int .i64 0, .int .i64 1, .int .i64 2, .int .i64 3, .int .i64 (-1), .int .i64 12, .int .i64 4611686018427387904] 3)
      have hcurA := hcur3.alloc (.cells #[.int .i64 0, .int .i64 1, .int .i64 2, .int .i64 3, .int .i64 (-1), .int .i64 12, .int .i64 4611686018427387904] 3)
      have hnA : Nums (w3.alloc (.cells #[.int .i64 0, .int .i64 1, .int .i64 2, .int .i64 3, .int .i64 (-1), .int .i64 12, .int .i64 4611686018427387904] 3)) (w3.heap.size + 1) (some ⟨w3.heap.size, 0, none⟩) 7 := new_nums w3 3 [0, 1, 2, 3, -1, 12, 4611686018427387904] (by simp)
      go_wp2_with fail
      refine (among_any (w.heap.size + 1) A n c _ w.heap.size _ 7 7 (w3.heap.size + 1) _ (by omega) hcdA hcurA (by omega) hnA (by omega) (by intro ad e; injection e with e; subst e; show w3.heap.size ≠ _; omega)).mono ?_
      rintro e w5 ⟨f, rfl, hcur5, hg5⟩
      have hz5 := hg5.size
      have hcd5 := hcdA.only (g := w.heap.size + 1) (by omega) (by simp; omega) hg5
      have hr5 : w5.heap[w.heap.size]? = some (.cells #[.int .i64 0, .int .i64 0] 38 (0, 0)) := by
        rw [hg5.block w.heap.size (by simp; omega) (by intro e; injection e; omega), Below.heap_alloc _ _ _ (by omega)]
        exact hr3
      have hb5 : w3.grownBy w5 (some (w.heap.size + 1)) := only_then (only_alloc (World.grownBy.refl _ _) _) hg5
      simp at hz5
      have hcdB := hcd5.alloc (by omega) (.cells #[.int .i64 0, .int .i64 1, .int .i64 2, .int .i64 3, .int .i64 (-1), .int .i64 12, .int .i64 (-9223372036854775808)] 3)
      have hcurB := hcur5.alloc (.cells #[.int .i64 0, .int .i64 1, .int .i64 2, .int .i64 3, .int .i64 (-1), .int .i64 12, .int .i64 (-9223372036854775808)] 3)
      have hnB : Nums (w5.alloc (.cells #[.int .i64 0, .int .i64 1, .int .i64 2, .int .i64 3, .int .i64 (-1), .int .i64 12, .int .i64 (-9223372036854775808)] 3)) (w5.heap.size + 1) (some ⟨w5.heap.size, 0, none⟩) 7 := new_nums w5 3 [0, 1, 2, 3, -1, 12, -9223372036854775808] (by simp)
      go_wp2_with fail
      refine (among_any (w.heap.size + 1) A n c _ w.heap.size _ 7 7 (w5.heap.size + 1) _ (by omega) hcdB hcurB (by omega) hnB (by omega) (by intro ad e; injection e with e; subst e; show w5.heap.size ≠ _; omega)).mono ?_
      rintro e w6 ⟨t, rfl, hcur6, hg6⟩
      have hr6 : w6.heap[w.heap.size]? = some (.cells #[.int .i64 0, .int .i64 0] 38 (0, 0)) := by
        rw [hg6.block w.heap.size (by simp; omega) (by intro e; injection e; omega), Below.heap_alloc _ _ _ (by omega)]
        exact hr5
      have hb6 : w3.grownBy w6 (some (w.heap.size + 1)) := only_then (only_alloc hb5 _) hg6
      obtain ⟨k0, k1, k2, k3⟩ := res_cells hr6
      obtain ⟨q0, q1⟩ := res_final (f := .int .i64 f) (t := .int .i64 t) hr6
      go_wp2
      refine bodyPost_ret (v := .tuple #[.string s, .agg #[.int .i64 f, .int .i64 t]]) (by simp [results, Tryz.results67, go_sem, q0, q1]) rfl ⟨s, f, t, rfl, hs, ?_⟩
      exact ((below_step hb3 hb6 (by omega)).setCell (Nat.le_refl _) _).setCell (Nat.le_refl _) _
    · have g1 : lineB (bL s) 12 = false := by simpa using hv
      generalize movesOf (bL s) TF = ms at *
      rename World => w3
      have hcdA := hcd3.alloc (by omega) (.cells #[.int .i64 0, .int .i64 1, .int .i64 2, .int .i64 3, .int .i64 (-1), .int .i64 12, .int .i64 4611686018427387904] 3)
      have hcurA := hcur3.alloc (.cells #[.int .i64 0, .int .i64 1, .int .i64 2, .int .i64 3, .int .i64 (-1), .int .i64 12, .int .i64 4611686018427387904] 3)
      have hnA : Nums (w3.alloc (.cells #[.int .i64 0, .int .i64 1, .int .i64 2, .int .i64 3, .int .i64 (-1), .int .i64 12, .int .i64 4611686018427387904] 3)) (w3.heap.size + 1) (some ⟨w3.heap.size, 0, none⟩) 7 := new_nums w3 3 [0, 1, 2, 3, -1, 12, 4611686018427387904] (by simp)
      go_wp2_with fail
      refine (among_any (w.heap.size + 1) A n c _ w.heap.size _ 7 7 (w3.heap.size + 1) _ (by omega) hcdA hcurA (by omega) hnA (by omega) (by intro ad e; injection e with e; subst e; show w3.heap.size ≠ _; omega)).mono ?_
      rintro e w5 ⟨f, rfl, hcur5, hg5⟩
      have hz5 := hg5.size
      have hcd5 := hcdA.only (g := w.heap.size + 1) (by omega) (by simp; omega) hg5
      have hr5 : w5.heap[w.heap.size]? = some (.cells #[.int .i64 0, .int .i64 0] 38 (0, 0)) := by
        rw [hg5.block w.heap.size (by simp; omega) (by intro e; injection e; omega), Below.heap_alloc _ _ _ (by omega)]
        exact hr3
      have hb5 : w3.grownBy w5 (some (w.heap.size + 1)) := only_then (only_alloc (World.grownBy.refl _ _) _) hg5
      simp at hz5
      have hcdB := hcd5.alloc (by omega) (.cells #[.int .i64 0, .int .i64 1, .int .i64 2, .int .i64 3, .int .i64 (-1), .int .i64 12, .int .i64 (-9223372036854775808)] 3)
      have hcurB := hcur5.alloc (.cells #[.int .i64 0, .int .i64 1, .int .i64 2, .int .i64 3, .int .i64 (-1), .int .i64 12, .int .i64 (-9223372036854775808)] 3)
      have hnB : Nums (w5.alloc (.cells #[.int .i64 0, .int .i64 1, .int .i64 2, .int .i64 3, .int .i64 (-1), .int .i64 12, .int .i64 (-9223372036854775808)] 3)) (w5.heap.size + 1) (some ⟨w5.heap.size, 0, none⟩) 7 := new_nums w5 3 [0, 1, 2, 3, -1, 12, -9223372036854775808] (by simp)
      go_wp2_with fail
      refine (among_any (w.heap.size + 1) A n c _ w.heap.size _ 7 7 (w5.heap.size + 1) _ (by omega) hcdB hcurB (by omega) hnB (by omega) (by intro ad e; injection e with e; subst e; show w5.heap.size ≠ _; omega)).mono ?_
      rintro e w6 ⟨t, rfl, hcur6, hg6⟩
      have hr6 : w6.heap[w.heap.size]? = some (.cells #[.int .i64 0, .int .i64 0] 38 (0, 0)) := by
        rw [hg6.block w.heap.size (by simp; omega) (by intro e; injection e; omega), Below.heap_alloc _ _ _ (by omega)]
        exact hr5
      have hb6 : w3.grownBy w6 (some (w.heap.size + 1)) := only_then (only_alloc hb5 _) hg6
      obtain ⟨k0, k1, k2, k3⟩ := res_cells hr6
      obtain ⟨q0, q1⟩ := res_final (f := .int .i64 f) (t := .int .i64 t) hr6
      go_wp2
      refine bodyPost_ret (v := .tuple #[.string s, .agg #[.int .i64 f, .int .i64 t]]) (by simp [results, Tryz.results67, go_sem, q0, q1]) rfl ⟨s, f, t, rfl, hs, ?_⟩
      exact ((below_step hb3 hb6 (by omega)).setCell (Nat.le_refl _) _).setCell (Nat.le_refl _) _
end Go.Proofs.YtemicglkmnjibaaGreatDoor
