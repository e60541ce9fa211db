/-
  The law on moves made, walked.
-/
import Derived.Test.YtemicglkmnjibaaGreatDoorDrawC
import Derived.Test.YtemicglkmnjibaaGreatDoorFacts3
import Derived.Deep.DeepCutAuto
namespace Go.Proofs.YtemicglkmnjibaaGreatDoor
open Go.RowKit
set_option linter.unusedVariables false
set_option linter.unusedSimpArgs false
theorem MvAt.bel {w w' : World} {A : Option Addr} {ms : List (Int × Int)} (h : MvAt w w.heap.size A ms) (hb : Below w.heap.size w w') : MvAt w' w'.heap.size A ms := by
  have h2 := h.keep (w' := w') fun i hi => hb.block i hi
  refine ⟨h2.1, fun j f t hj => ?_⟩
  obtain ⟨ad, x1, x2, x3, x4⟩ := h2.2 j f t hj
  exact ⟨ad, x1, Nat.lt_of_lt_of_le x2 hb.size, x3, x4⟩
theorem Code.bel {w w' : World} {A : Option Addr} {n : Nat} (h : Code w w.heap.size A n) (hb : Below w.heap.size w w') : Code w' w'.heap.size A n := by
  have h2 := h.keep (w' := w') fun i hi => hb.block i hi
  refine ⟨h2.1, fun j hj => ?_⟩
  obtain ⟨ad, b, x1, x2, x3, x4⟩ := h2.2 j hj
  exact ⟨ad, b, x1, Nat.lt_of_lt_of_le x2 hb.size, x3, x4⟩
theorem bel_drewN (w : World) (n : Nat) : Below w.heap.size w (w.drewN n) := pw_below_drewN (Below.refl _ _) n
theorem bel_drew (w : World) : Below w.heap.size w w.drew := ⟨rfl, rfl, rfl, Nat.le_refl _, fun _ _ => rfl⟩
theorem bel_alloc (w : World) (o : Obj) : Below w.heap.size w (w.alloc o) := (Below.refl _ _).alloc (Nat.le_refl _) _
theorem movesOf_le {s : ByteArray} (hs : s.size ≤ 20) (ks : List Nat) : (movesOf (bL s) ks).length ≤ 10000000 := by
  have := movesOf_length (bL s) ks; rw [bL_length] at this; omega
theorem yMoves_bel (A1 A2 : Option Addr) (c1 c2 : Nat) (ms : List (Int × Int)) (w : World) (h1 : MvAt w w.heap.size A1 ms) (h2 : MvAt w w.heap.size A2 ms) :
    Calls Tryz.prog 21 #[.slice A1 ms.length c1, .slice A2 ms.length c2] w fun e w' => e = .returned (.bool true) ∧ Below w.heap.size w w' :=
  (yMoves_same A1 A2 c1 c2 _ _ ms w h1 h2).mono fun e w' ⟨he, n, hw⟩ => ⟨he, hw ▸ bel_drewN w n⟩
theorem yOrder_bel (A : Option Addr) (c : Nat) (ms : List (Int × Int)) (w : World) (h1 : MvAt w w.heap.size A ms) (ho : ∀ (j : Nat) (a b : Int × Int), ms[j]? = some a → ms[j + 1]? = some b → a.1 < b.1) :
    Calls Tryz.prog 24 #[.slice A ms.length c] w fun e w' => e = .returned (.bool true) ∧ Below w.heap.size w w' :=
  (yOrder_yes A c _ ms w h1 ho).mono fun e w' ⟨he, n, hw⟩ => ⟨he, hw ▸ bel_drewN w n⟩
theorem line_of_mk {l : List Nat} {m : Int × Int} (h : mkOk l m = true) : lineB l 12 = true := by
  unfold mkOk at h; rw [Bool.and_eq_true] at h; exact h.1
theorem new_two (w : World) (x y : Value) (T : TypeId) : (w.alloc (.cells #[x, y] T)).cell? ⟨w.heap.size, 0, none⟩ = some x ∧ (w.alloc (.cells #[x, y] T)).cell? ⟨w.heap.size, 1, none⟩ = some y := by simp
/-- What the last region of the loop's round keeps. -/
def Pk (wb : World) (A1 A2 A3 : Option Addr) (m1 m2 m3 : List (Int × Int)) (W : World) : Prop :=
  MvAt W W.heap.size A1 m1 ∧ MvAt W W.heap.size A2 m2 ∧ MvAt W W.heap.size A3 m3 ∧ Below wb.heap.size wb W
theorem Pk.bel {wb : World} {A1 A2 A3 : Option Addr} {m1 m2 m3 : List (Int × Int)} {W W' : World} (h : Pk wb A1 A2 A3 m1 m2 m3 W) (hb : Below W.heap.size W W') : Pk wb A1 A2 A3 m1 m2 m3 W' :=
  ⟨h.1.bel hb, h.2.1.bel hb, h.2.2.1.bel hb, bel_trans h.2.2.2 hb⟩
theorem yIn_pk {wb : World} {A1 A2 A3 : Option Addr} {m1 m2 m3 : List (Int × Int)} {W : World} {p q : Addr} {u v : Value} (h : W.cell? p = some u ∧ W.cell? q = some v ∧ Pk wb A1 A2 A3 m1 m2 m3 W)
    {A : Option Addr} {ms : List (Int × Int)} (hm : MvAt W W.heap.size A ms) (c : Nat) (x y : Int) :
    Calls Tryz.prog 28 #[.slice A ms.length c, .agg #[.int .i64 x, .int .i64 y]] W fun e w' => e = .returned (.bool (ms.contains (x, y))) ∧ (w'.cell? p = some u ∧ w'.cell? q = some v ∧ Pk wb A1 A2 A3 m1 m2 m3 w') :=
  (yIn_any A c _ ms x y W hm (Nat.le_refl _)).mono fun e w' ⟨he, hb⟩ => ⟨he, pw_cell_below hb h.1, pw_cell_below hb h.2.1, h.2.2.bel hb⟩
theorem yIn_pk1 {wb : World} {A1 A2 A3 : Option Addr} {m1 m2 m3 : List (Int × Int)} {W : World} {p q : Addr} {u v : Value} (h : W.cell? p = some u ∧ W.cell? q = some v ∧ Pk wb A1 A2 A3 m1 m2 m3 W) (c : Nat) (x y : Int) {b : Bool} (hb : m1.contains (x, y) = b) :
    Calls Tryz.prog 28 #[.slice A1 m1.length c, .agg #[.int .i64 x, .int .i64 y]] W fun e w' => e = .returned (.bool b) ∧ (w'.cell? p = some u ∧ w'.cell? q = some v ∧ Pk wb A1 A2 A3 m1 m2 m3 w') := hb ▸ yIn_pk h h.2.2.1 c x y
theorem yIn_pk2 {wb : World} {A1 A2 A3 : Option Addr} {m1 m2 m3 : List (Int × Int)} {W : World} {p q : Addr} {u v : Value} (h : W.cell? p = some u ∧ W.cell? q = some v ∧ Pk wb A1 A2 A3 m1 m2 m3 W) (c : Nat) (x y : Int) {b : Bool} (hb : m2.contains (x, y) = b) :
    Calls Tryz.prog 28 #[.slice A2 m2.length c, .agg #[.int .i64 x, .int .i64 y]] W fun e w' => e = .returned (.bool b) ∧ (w'.cell? p = some u ∧ w'.cell? q = some v ∧ Pk wb A1 A2 A3 m1 m2 m3 w') := hb ▸ yIn_pk h h.2.2.2.1 c x y
theorem yIn_pk3 {wb : World} {A1 A2 A3 : Option Addr} {m1 m2 m3 : List (Int × Int)} {W : World} {p q : Addr} {u v : Value} (h : W.cell? p = some u ∧ W.cell? q = some v ∧ Pk wb A1 A2 A3 m1 m2 m3 W) (c n : Nat) (x y : Int) (hn : m3.length = n) {b : Bool} (hb : m3.contains (x, y) = b) :
    Calls Tryz.prog 28 #[.slice A3 n c, .agg #[.int .i64 x, .int .i64 y]] W fun e w' => e = .returned (.bool b) ∧ (w'.cell? p = some u ∧ w'.cell? q = some v ∧ Pk wb A1 A2 A3 m1 m2 m3 w') := by subst hn hb; exact yIn_pk h h.2.2.2.2.1 c x y
/-- A world of the kind that the round's last region keeps. -/
structure PkW (wb : World) (A1 A2 A3 : Option Addr) (m1 m2 m3 : List (Int × Int)) (g : Nat) (f t : Int) where
  W : World
  c0 : W.cell? ⟨g, 0, none⟩ = some (.int .i64 f)
  c1 : W.cell? ⟨g, 1, none⟩ = some (.int .i64 t)
  pk : Pk wb A1 A2 A3 m1 m2 m3 W
theorem wp_region_pk {P : Program} {X : Type} (F : X → World) {id : Nat} {Q : Exit → Act → World → Prop} {a : Act} {w : World} {l : List Oper} (hm : P.follows .mixedOrders = true) (hB : Region.lexB .any l.toArray = true) (x0 : X) (h0 : F x0 = w.drew)
    (h : wpQuiet P l.toArray (fun w' => ∃ x : X, w' = F x) (fun a' => ∀ w', (∃ x : X, w' = F x) → Q .normal a' w') l a) : (Code.region id l.toArray true).wp P Q a w :=
  wp_region_quiet (C := fun w' => ∃ x : X, w' = F x) hm hB ⟨x0, h0.symm⟩ (by simpa using h)
theorem PkW.bel {wb : World} {A1 A2 A3 : Option Addr} {m1 m2 m3 : List (Int × Int)} {g : Nat} {f t : Int} (x : PkW wb A1 A2 A3 m1 m2 m3 g f t) {w' : World} (hb : Below x.W.heap.size x.W w') : ∃ y : PkW wb A1 A2 A3 m1 m2 m3 g f t, w' = y.W :=
  ⟨⟨w', pw_cell_below hb x.c0, pw_cell_below hb x.c1, x.pk.bel hb⟩, rfl⟩
theorem yIn_x {wb : World} {A1 A2 A3 : Option Addr} {m1 m2 m3 : List (Int × Int)} {g : Nat} {f t : Int} (x : PkW wb A1 A2 A3 m1 m2 m3 g f t) {A : Option Addr} {ms : List (Int × Int)} {n : Nat} (hn : ms.length = n) (hm : MvAt x.W x.W.heap.size A ms) (c : Nat) (p q : Int) {b : Bool} (hb : ms.contains (p, q) = b) :
    Calls Tryz.prog 28 #[.slice A n c, .agg #[.int .i64 p, .int .i64 q]] x.W fun e w' => e = .returned (.bool b) ∧ ∃ y : PkW wb A1 A2 A3 m1 m2 m3 g f t, w' = y.W := by
  subst hn hb
  exact (yIn_any A c _ ms p q x.W hm (Nat.le_refl _)).mono fun e w' ⟨he, h⟩ => ⟨he, x.bel h⟩
set_option maxHeartbeats 2000000 in
theorem DrawMakeMove_any (A : Option Addr) (n c : Nat) (w : World) (hcode : Code w w.heap.size A n) :
    Calls Tryz.prog 29 #[.slice A n c] w fun e w' => ∃ (s : ByteArray) (f t : Int), e = .returned (.tuple #[.string s, .agg #[.int .i64 f, .int .i64 t]]) ∧ s.size ≤ 20 ∧ Below w.heap.size w w' := by
  have hc := hcode.bel (bel_alloc w (.cells #[.int .i64 0, .int .i64 0] 38))
  go_enter Tryz.func29, Tryz.ntmps29
  go_wp2_with fail
  refine (DrawCanMove_any A n c _ hc).mono ?_
  rintro e w1 ⟨s, f, t, rfl, hs, hb⟩
  have hr1 := (hb.block w.heap.size (by simp)).trans (heap_alloc_new w _)
  obtain ⟨k0, k1, k2, k3⟩ := res_cells hr1
  obtain ⟨q0, q1⟩ := res_final (f := .int .i64 f) (t := .int .i64 t) hr1
  go_wp2
  refine bodyPost_ret (v := .tuple #[.string s, .agg #[.int .i64 f, .int .i64 t]]) (by simp [results, Tryz.results29, go_sem, q0, q1]) rfl ⟨s, f, t, rfl, hs, ?_⟩
  exact ((bel_trans (bel_alloc w _) hb).setCell (Nat.le_refl _) _).setCell (Nat.le_refl _) _
set_option maxRecDepth 100000 in
set_option maxHeartbeats 16000000 in
theorem FnMovesMade_any (A1 A2 : Option Addr) (n1 c1 n2 c2 : Nat) (w : World) (hcode1 : Code w w.heap.size A1 n1) (hcode2 : Code w w.heap.size A2 n2) :
    Calls Tryz.prog 3 #[.slice A1 n1 c1, .slice A2 n2 c2] w fun e w' => e = .returned (.bool true) ∧ Below w.heap.size w w' := by
  by_cases hbig : n1 + n2 ≤ 1048576
  · go_enter Tryz.func3, Tryz.ntmps3
    go_wp2_with fail
    refine (big_false A1 A2 n1 c1 n2 c2 _ hbig).mono ?_
    rintro e w' ⟨rfl, rfl⟩
    go_wp2_with fail
    refine (DrawMovesOf_any A1 n1 c1 _ hcode1).mono ?_
    rintro e w1 ⟨s, rfl, hs, hbw⟩
    replace hcode2 := hcode2.bel hbw
    clear hcode1
    go_wp2_with fail
    refine (MovesOf_any s _ (by omega)).mono ?_
    rintro e wN ⟨v, rfl, hown, hb⟩
    obtain ⟨Am1, cm1, rfl, hmm1⟩ := own_MvAt hown (movesOf_le hs _)
    clear hown
    replace hcode2 := hcode2.bel hb
    replace hbw := bel_trans hbw hb
    clear hb
    go_wp2_with fail
    refine (specMovesOf_any s _ (by omega)).mono ?_
    rintro e wN ⟨v, rfl, hown, hb⟩
    obtain ⟨Am2, cm2, rfl, hmm2⟩ := own_MvAt hown (movesOf_le hs _)
    clear hown
    replace hmm1 := hmm1.bel hb
    replace hcode2 := hcode2.bel hb
    replace hbw := bel_trans hbw hb
    clear hb
    go_wp2_with fail
    refine (ToadMoves_any s _ (by omega)).mono ?_
    rintro e wN ⟨v, rfl, hown, hb⟩
    obtain ⟨At1, ct1, rfl, hmt1⟩ := own_MvAt hown (movesOf_le hs _)
    clear hown
    replace hmm1 := hmm1.bel hb
    replace hmm2 := hmm2.bel hb
    replace hcode2 := hcode2.bel hb
    replace hbw := bel_trans hbw hb
    clear hb
    go_wp2_with fail
    refine (specToadMoves_any s _ (by omega)).mono ?_
    rintro e wN ⟨v, rfl, hown, hb⟩
    obtain ⟨At2, ct2, rfl, hmt2⟩ := own_MvAt hown (movesOf_le hs _)
    clear hown
    replace hmm1 := hmm1.bel hb
    replace hmm2 := hmm2.bel hb
    replace hmt1 := hmt1.bel hb
    replace hcode2 := hcode2.bel hb
    replace hbw := bel_trans hbw hb
    clear hb
    go_wp2_with fail
    refine (FrogMoves_any s _ (by omega)).mono ?_
    rintro e wN ⟨v, rfl, hown, hb⟩
    obtain ⟨Af1, cf1, rfl, hmf1⟩ := own_MvAt hown (movesOf_le hs _)
    clear hown
    replace hmm1 := hmm1.bel hb
    replace hmm2 := hmm2.bel hb
    replace hmt1 := hmt1.bel hb
    replace hmt2 := hmt2.bel hb
    replace hcode2 := hcode2.bel hb
    replace hbw := bel_trans hbw hb
    clear hb
    go_wp2_with fail
    refine (specFrogMoves_any s _ (by omega)).mono ?_
    rintro e wN ⟨v, rfl, hown, hb⟩
    obtain ⟨Af2, cf2, rfl, hmf2⟩ := own_MvAt hown (movesOf_le hs _)
    clear hown
    replace hmm1 := hmm1.bel hb
    replace hmm2 := hmm2.bel hb
    replace hmt1 := hmt1.bel hb
    replace hmt2 := hmt2.bel hb
    replace hmf1 := hmf1.bel hb
    replace hcode2 := hcode2.bel hb
    replace hbw := bel_trans hbw hb
    clear hb
    go_wp2_with fail
    refine (WayToGo_any s _ (by omega)).mono ?_
    rintro e wN ⟨rfl, hb⟩
    replace hmm1 := hmm1.bel hb
    replace hmm2 := hmm2.bel hb
    replace hmt1 := hmt1.bel hb
    replace hmt2 := hmt2.bel hb
    replace hmf1 := hmf1.bel hb
    replace hmf2 := hmf2.bel hb
    replace hcode2 := hcode2.bel hb
    replace hbw := bel_trans hbw hb
    clear hb
    go_wp2_with fail
    refine (specWayToGo_any s _ (by omega)).mono ?_
    rintro e wN ⟨rfl, rfl⟩
    go_wp2_with fail
    refine (PairsToPass_any s _ (by omega)).mono ?_
    rintro e wN ⟨rfl, hb⟩
    replace hmm1 := hmm1.bel hb
    replace hmm2 := hmm2.bel hb
    replace hmt1 := hmt1.bel hb
    replace hmt2 := hmt2.bel hb
    replace hmf1 := hmf1.bel hb
    replace hmf2 := hmf2.bel hb
    replace hcode2 := hcode2.bel hb
    replace hbw := bel_trans hbw hb
    clear hb
    go_wp2_with fail
    refine (specPairsToPass_any s _ (by omega)).mono ?_
    rintro e wN ⟨rfl, rfl⟩
    go_wp2_with fail
    refine (IsBlocked_any s _ (by omega)).mono ?_
    rintro e wN ⟨rfl, hb⟩
    replace hmm1 := hmm1.bel hb
    replace hmm2 := hmm2.bel hb
    replace hmt1 := hmt1.bel hb
    replace hmt2 := hmt2.bel hb
    replace hmf1 := hmf1.bel hb
    replace hmf2 := hmf2.bel hb
    replace hcode2 := hcode2.bel hb
    replace hbw := bel_trans hbw hb
    clear hb
    go_wp2_with fail
    refine (specIsBlocked_any s _ (by omega)).mono ?_
    rintro e wN ⟨rfl, hb⟩
    replace hmm1 := hmm1.bel hb
    replace hmm2 := hmm2.bel hb
    replace hmt1 := hmt1.bel hb
    replace hmt2 := hmt2.bel hb
    replace hmf1 := hmf1.bel hb
    replace hmf2 := hmf2.bel hb
    replace hcode2 := hcode2.bel hb
    replace hbw := bel_trans hbw hb
    clear hb
    go_wp2_with fail
    refine (OtherLine_any s _ (by omega)).mono ?_
    rintro e wN ⟨rfl, hb⟩
    replace hmm1 := hmm1.bel hb
    replace hmm2 := hmm2.bel hb
    replace hmt1 := hmt1.bel hb
    replace hmt2 := hmt2.bel hb
    replace hmf1 := hmf1.bel hb
    replace hmf2 := hmf2.bel hb
    replace hcode2 := hcode2.bel hb
    replace hbw := bel_trans hbw hb
    clear hb
    go_wp2_with fail
    refine (specOtherLine_any s _ (by omega)).mono ?_
    rintro e wN ⟨rfl, rfl⟩
    cases hv : lineB (bL s) 12 with
    | true =>
      as_aux_lemma =>
        obtain ⟨hsp, hblk, hord, hW0, hP0⟩ := law_line hv
        obtain ⟨hov, hback, hsame, hlen, hosz⟩ := law_other hv
        have hall := law_step hv
        have hso : (otherB (bL s)).size ≤ 20 := by omega
        have hl20 : (movesOf (bL s) TF).length ≤ 20 := by have := movesOf_length (bL s) TF; rw [bL_length] at this; omega
        have hl84 : (movesOf (bL s) [84]).length ≤ 20 := by omega
        have hl70 : (movesOf (bL s) [70]).length ≤ 20 := by omega
        have hspa : (movesOf (bL s) TF).length ≤ (movesOf (bL s) [84]).length + (movesOf (bL s) [70]).length := by omega
        have hspb : (movesOf (bL s) [84]).length + (movesOf (bL s) [70]).length ≤ (movesOf (bL s) TF).length := by omega
        have hW1 : decide (wayOf (bL s) < 0) = false := decide_eq_false (by omega)
        have hP1 : decide (pairsOf (bL s) < 0) = false := decide_eq_false (by omega)
        have Hall := Lib.hid hall
        have Hord := Lib.hid hord
        have Hsame := Lib.hid hsame
        have Hback := Lib.hid hback
        have Hlen := Lib.hid hlen
        have Hov := Lib.hid hov
        clear hall hord hsame hback hlen hov hsp hosz
        go_upto_region 18 with (fail)
        simp only [List.append]
        go_wp2_with fail
        refine (yMoves_bel _ _ _ _ _ _ hmm1 hmm2).mono ?_
        rintro e wN ⟨rfl, hb⟩
        replace hmm1 := hmm1.bel hb
        replace hmm2 := hmm2.bel hb
        replace hmt1 := hmt1.bel hb
        replace hmt2 := hmt2.bel hb
        replace hmf1 := hmf1.bel hb
        replace hmf2 := hmf2.bel hb
        replace hcode2 := hcode2.bel hb
        replace hbw := bel_trans hbw hb
        clear hb
        go_wp2_with fail
        refine (yMoves_bel _ _ _ _ _ _ hmt1 hmt2).mono ?_
        rintro e wN ⟨rfl, hb⟩
        replace hmm1 := hmm1.bel hb
        replace hmm2 := hmm2.bel hb
        replace hmt1 := hmt1.bel hb
        replace hmt2 := hmt2.bel hb
        replace hmf1 := hmf1.bel hb
        replace hmf2 := hmf2.bel hb
        replace hcode2 := hcode2.bel hb
        replace hbw := bel_trans hbw hb
        clear hb
        go_wp2_with fail
        refine (yMoves_bel _ _ _ _ _ _ hmf1 hmf2).mono ?_
        rintro e wN ⟨rfl, hb⟩
        replace hmm1 := hmm1.bel hb
        replace hmm2 := hmm2.bel hb
        replace hmt1 := hmt1.bel hb
        replace hmt2 := hmt2.bel hb
        replace hmf1 := hmf1.bel hb
        replace hmf2 := hmf2.bel hb
        replace hcode2 := hcode2.bel hb
        replace hbw := bel_trans hbw hb
        clear hb
        go_wp2_with fail
        refine (IsLine_any s _ (by omega)).mono ?_
        rintro e wN ⟨rfl, hb⟩
        replace hmm1 := hmm1.bel hb
        replace hmm2 := hmm2.bel hb
        replace hmt1 := hmt1.bel hb
        replace hmt2 := hmt2.bel hb
        replace hmf1 := hmf1.bel hb
        replace hmf2 := hmf2.bel hb
        replace hcode2 := hcode2.bel hb
        replace hbw := bel_trans hbw hb
        clear hb
        go_wp2_with fail
        refine (IsLine_any s _ (by omega)).mono ?_
        rintro e wN ⟨rfl, hb⟩
        replace hmm1 := hmm1.bel hb
        replace hmm2 := hmm2.bel hb
        replace hmt1 := hmt1.bel hb
        replace hmt2 := hmt2.bel hb
        replace hmf1 := hmf1.bel hb
        replace hmf2 := hmf2.bel hb
        replace hcode2 := hcode2.bel hb
        replace hbw := bel_trans hbw hb
        clear hb
        go_wp2_with fail
        refine (specIsLine_any s _ (by omega)).mono ?_
        rintro e wN ⟨rfl, rfl⟩
        go_wp2_with fail
        refine (yOrder_bel _ _ _ _ hmm1 Hord.out).mono ?_
        rintro e wN ⟨rfl, hb⟩
        replace hmm1 := hmm1.bel hb
        replace hmm2 := hmm2.bel hb
        replace hmt1 := hmt1.bel hb
        replace hmt2 := hmt2.bel hb
        replace hmf1 := hmf1.bel hb
        replace hmf2 := hmf2.bel hb
        replace hcode2 := hcode2.bel hb
        replace hbw := bel_trans hbw hb
        clear hb
        as_aux_lemma =>
          have hov := Hov.out
          have hback := Hback.out
          have hsame := Hsame.out
          have hlen := Hlen.out
          go_wp2_with fail
          refine (MovesOf_any (otherB (bL s)) _ (by omega)).mono ?_
          rintro e wN ⟨v, rfl, hown, hb⟩
          obtain ⟨Ao, co, rfl, hmo⟩ := own_MvAt hown (movesOf_le hso _)
          clear hown
          replace hmm1 := hmm1.bel hb
          replace hmm2 := hmm2.bel hb
          replace hmt1 := hmt1.bel hb
          replace hmt2 := hmt2.bel hb
          replace hmf1 := hmf1.bel hb
          replace hmf2 := hmf2.bel hb
          replace hcode2 := hcode2.bel hb
          replace hbw := bel_trans hbw hb
          clear hb
          go_wp2_with fail
          refine (OtherLine_any (otherB (bL s)) _ (by omega)).mono ?_
          rintro e wN ⟨rfl, hb⟩
          replace hmm1 := hmm1.bel hb
          replace hmm2 := hmm2.bel hb
          replace hmt1 := hmt1.bel hb
          replace hmt2 := hmt2.bel hb
          replace hmf1 := hmf1.bel hb
          replace hmf2 := hmf2.bel hb
          replace hmo := hmo.bel hb
          replace hcode2 := hcode2.bel hb
          replace hbw := bel_trans hbw hb
          clear hb
          go_wp2_with fail
          refine (WayToGo_any (otherB (bL s)) _ (by omega)).mono ?_
          rintro e wN ⟨rfl, hb⟩
          replace hmm1 := hmm1.bel hb
          replace hmm2 := hmm2.bel hb
          replace hmt1 := hmt1.bel hb
          replace hmt2 := hmt2.bel hb
          replace hmf1 := hmf1.bel hb
          replace hmf2 := hmf2.bel hb
          replace hmo := hmo.bel hb
          replace hcode2 := hcode2.bel hb
          replace hbw := bel_trans hbw hb
          clear hb
          clear hmm2
          clear hmt2
          clear hmf2
          go_wp2_with fail
          have hW2 := wayOf_le (bL s)
          have hP2 := pairsOf_le (bL s)
          clear hov hback hsame hlen hW1 hP1 hspa hspb hblk
          obtain ⟨w0, hw0⟩ : ∃ w0, w0 = wN := ⟨_, rfl⟩
          subst hw0
          go_loopw [330] (fun i wr => ∃ k : Nat, k ≤ (movesOf (bL s) TF).length ∧ i = .int .i64 k ∧ Below w0.heap.size w0 wr) (fun i _ => (movesOf (bL s) TF).length - (intOf i).toNat)
          case atStart => exact ⟨0, by omega, rfl, Below.refl _ _⟩
          case round =>
            as_aux_lemma =>
              obtain ⟨k, hk, rfl, hbr⟩ := hrel
              replace hbw := bel_trans hbw hbr
              replace hmm1 := hmm1.bel hbr
              replace hmt1 := hmt1.bel hbr
              replace hmf1 := hmf1.bel hbr
              replace hmo := hmo.bel hbr
              replace hcode2 := hcode2.bel hbr
              by_cases hlt : k < (movesOf (bL s) TF).length
              · obtain ⟨f, t, hft⟩ : ∃ f t, (movesOf (bL s) TF)[k]? = some (f, t) := ⟨_, _, List.getElem?_eq_getElem hlt⟩
                obtain ⟨ad, rfl, hab, x1, x2⟩ := hmm1.2 k f t hft
                obtain ⟨g1, g2, g3, g4, g5, g6, g7, g8, g9, g10⟩ := Hall.out (f, t) (List.mem_of_getElem? hft)
                dsimp only at g6 g7 g8 g9 g10
                have hWn := wayOf_le (bL (madeB (bL s) (f, t)))
                have hsz := hbr.size
                replace g4 := Lib.hid g4
                replace g5 := Lib.hid g5
                replace g6 := Lib.hid g6
                replace g7 := Lib.hid g7
                replace g8 := Lib.hid g8
                clear Hall Hord hft
                replace hbr := bel_trans hbr (bel_alloc wr (.cells #[.int .i64 f, .int .i64 t] 38))
                obtain ⟨k0, k1⟩ := new_two wr (.int .i64 f) (.int .i64 t) 38
                replace hmt1 := hmt1.bel (bel_alloc wr (.cells #[.int .i64 f, .int .i64 t] 38))
                replace hmf1 := hmf1.bel (bel_alloc wr (.cells #[.int .i64 f, .int .i64 t] 38))
                replace hmo := hmo.bel (bel_alloc wr (.cells #[.int .i64 f, .int .i64 t] 38))
                clear hmm1 hbw hcode2
                go_wp2_with fail
                refine (CanMove_any s f t _ (by omega)).mono ?_
                rintro e wN ⟨rfl, hb⟩
                replace hmt1 := hmt1.bel hb
                replace hmf1 := hmf1.bel hb
                replace hmo := hmo.bel hb
                replace hbr := bel_trans hbr hb
                replace k0 := pw_cell_below hb k0
                replace k1 := pw_cell_below hb k1
                clear hb
                go_wp2_with fail
                refine (MakeMove_any s f t _ (by omega)).mono ?_
                rintro e wN ⟨rfl, hb⟩
                replace hmt1 := hmt1.bel hb
                replace hmf1 := hmf1.bel hb
                replace hmo := hmo.bel hb
                replace hbr := bel_trans hbr hb
                replace k0 := pw_cell_below hb k0
                replace k1 := pw_cell_below hb k1
                clear hb
                go_wp2_with fail
                refine (IsJump_any s f t _ (by omega)).mono ?_
                rintro e wN ⟨rfl, hb⟩
                replace hmt1 := hmt1.bel hb
                replace hmf1 := hmf1.bel hb
                replace hmo := hmo.bel hb
                replace hbr := bel_trans hbr hb
                replace k0 := pw_cell_below hb k0
                replace k1 := pw_cell_below hb k1
                clear hb
                go_wp2_with fail
                refine (WayToGo_any (madeB (bL s) (f, t)) _ (by omega)).mono ?_
                rintro e wN ⟨rfl, hb⟩
                replace hmt1 := hmt1.bel hb
                replace hmf1 := hmf1.bel hb
                replace hmo := hmo.bel hb
                replace hbr := bel_trans hbr hb
                replace k0 := pw_cell_below hb k0
                replace k1 := pw_cell_below hb k1
                clear hb
                go_wp2_with fail
                refine (PairsToPass_any (madeB (bL s) (f, t)) _ (by omega)).mono ?_
                rintro e wN ⟨rfl, hb⟩
                replace hmt1 := hmt1.bel hb
                replace hmf1 := hmf1.bel hb
                replace hmo := hmo.bel hb
                replace hbr := bel_trans hbr hb
                replace k0 := pw_cell_below hb k0
                replace k1 := pw_cell_below hb k1
                clear hb
                have g8o := g8.out
                have hSS : wN.drew.cell? ⟨wr.heap.size, 0, none⟩ = some (.int .i64 f) ∧ wN.drew.cell? ⟨wr.heap.size, 1, none⟩ = some (.int .i64 t) ∧ Pk w0 At1 Af1 Ao (movesOf (bL s) [84]) (movesOf (bL s) [70]) (movesOf (bL (otherB (bL s))) TF) wN.drew := ⟨k0, k1, Pk.bel ⟨hmt1, hmf1, hmo, hbr⟩ (bel_drew wN)⟩
                obtain ⟨C, D, hCD⟩ : ∃ C D : Int, (jumpZ (f, t) = true ∧ C = 2 ∧ D = 1) ∨ (jumpZ (f, t) = false ∧ C = 1 ∧ D = 0) := by
                  cases jumpZ (f, t)
                  · exact ⟨1, 0, .inr ⟨rfl, rfl, rfl⟩⟩
                  · exact ⟨2, 1, .inl ⟨rfl, rfl, rfl⟩⟩
                have hcb : (1 ≤ C ∧ C ≤ 2) ∧ (0 ≤ D ∧ D ≤ 1) := by rcases hCD with ⟨_, rfl, rfl⟩ | ⟨_, rfl, rfl⟩ <;> omega
                have g4o : wayOf (bL (madeB (bL s) (f, t))) = wayOf (bL s) - C := by
                  have := g4.out
                  rcases hCD with ⟨h1, rfl, rfl⟩ | ⟨h1, rfl, rfl⟩ <;> (rw [h1] at this; simpa using this)
                have g5o : pairsOf (bL (madeB (bL s) (f, t))) = pairsOf (bL s) - D := by
                  have := g5.out
                  rcases hCD with ⟨h1, rfl, rfl⟩ | ⟨h1, rfl, rfl⟩ <;> (rw [h1] at this; simpa using this)
                obtain ⟨b, hbd⟩ : ∃ b, b = decide (f < t) := ⟨_, rfl⟩
                have g6o : (movesOf (bL s) [84]).contains (f, t) = b := by rw [g6.out, hbd]
                have g7o : (movesOf (bL s) [70]).contains (f, t) = !b := by rw [g7.out, hbd]
                have hdo : decide (f < t) = b := hbd.symm
                have hq1 : (b == !b) = false := by cases b <;> rfl
                have hq2 : (b != b) = false := by cases b <;> rfl
                have y1 : IntKind.i64.wrap (wayOf (bL s) - C) = wayOf (bL s) - C := IntWalk.i64_in _ (by omega)
                have y2 : IntKind.i64.wrap (pairsOf (bL s) - D) = pairsOf (bL s) - D := IntWalk.i64_in _ (by omega)
                have y3 : IntKind.i64.wrap ((s.size : Int) - 1) = (s.size : Int) - 1 := IntWalk.i64_in _ (by omega)
                have y4 : IntKind.i64.wrap ((s.size : Int) - 1 - f) = (s.size : Int) - 1 - f := IntWalk.i64_in _ (by omega)
                have y5 : IntKind.i64.wrap ((s.size : Int) - 1 - t) = (s.size : Int) - 1 - t := IntWalk.i64_in _ (by omega)
                have HCD := Lib.hid hCD
                replace g6o := Lib.hid g6o
                replace g7o := Lib.hid g7o
                replace g8o := Lib.hid g8o
                clear hCD hbd hmt1 hmf1 hmo k0 k1 hbr
                replace g4o := Lib.hid g4o
                replace g5o := Lib.hid g5o
                go_upto_if 362 with (fail)
                go_cut [46, 52, 53, 330] (fun s46 s52 s53 s330 wx => s52 = .int .i64 C ∧ s53 = .int .i64 D ∧ s330 = .int .i64 k ∧ wN = wx)
                case first =>
                  rcases HCD.out with ⟨h1, rfl, rfl⟩ | ⟨h1, rfl, rfl⟩
                  all_goals (simp only [h1]; go_wp2_with fail; go_meet; exact ⟨rfl, rfl, rfl, rfl⟩)
                case rest =>
                  obtain ⟨rfl, rfl, rfl, rfl⟩ := hcut
                  as_aux_lemma =>
                    replace g4o := g4o.out
                    replace g5o := g5o.out
                    go_upto_region 39 with (fail)
                    simp only [List.append]
                    have hx0 : ∀ x : PkW w0 At1 Af1 Ao (movesOf (bL s) [84]) (movesOf (bL s) [70]) (movesOf (bL (otherB (bL s))) TF) wr.heap.size f t, x.W.cell? ⟨wr.heap.size, 0, none⟩ = some (.int .i64 f) := fun x => x.c0
                    have hx1 : ∀ x : PkW w0 At1 Af1 Ao (movesOf (bL s) [84]) (movesOf (bL s) [70]) (movesOf (bL (otherB (bL s))) TF) wr.heap.size f t, x.W.cell? ⟨wr.heap.size, 1, none⟩ = some (.int .i64 t) := fun x => x.c1
                    have hxx : ∀ x : PkW w0 At1 Af1 Ao (movesOf (bL s) [84]) (movesOf (bL s) [70]) (movesOf (bL (otherB (bL s))) TF) wr.heap.size f t, (∃ y : PkW w0 At1 Af1 Ao (movesOf (bL s) [84]) (movesOf (bL s) [70]) (movesOf (bL (otherB (bL s))) TF) wr.heap.size f t, x.W = y.W) := fun x => ⟨x, rfl⟩
                    have hxn : Nonempty (PkW w0 At1 Af1 Ao (movesOf (bL s) [84]) (movesOf (bL s) [70]) (movesOf (bL (otherB (bL s))) TF) wr.heap.size f t) := ⟨⟨_, hSS.1, hSS.2.1, hSS.2.2⟩⟩
                    refine wp_region_pk (fun x : PkW w0 At1 Af1 Ao (movesOf (bL s) [84]) (movesOf (bL s) [70]) (movesOf (bL (otherB (bL s))) TF) wr.heap.size f t => x.W) (by kernel_rfl) (by kernel_rfl) ⟨_, hSS.1, hSS.2.1, hSS.2.2⟩ rfl ?_
                    repeat (go_big_quiet_step (first
                        | (go_at_call_of 28 (Value.slice At1 (movesOf (bL s) [84]).length ct1); exact yIn_x _ rfl (PkW.pk _).1 _ _ _ g6o.out)
                        | (go_at_call_of 28 (Value.slice Af1 (movesOf (bL s) [70]).length cf1); exact yIn_x _ rfl (PkW.pk _).2.1 _ _ _ g7o.out)
                        | (go_at_call_of 28 (Value.slice Ao (movesOf (bL s) TF).length co); exact yIn_x _ Hlen.out (PkW.pk _).2.2.1 _ _ _ g8o.out)))
                    refine wpQuiet_nil ?_
                    rintro w9 ⟨x9, rfl⟩
                    go_wp2_with fail
                    go_roundw
                    case rel => exact ⟨k + 1, by omega, by go_num, x9.pk.2.2.2⟩
                    case measure => simp [intOf]; omega
              · clear hbr
                clear Hall Hord
                as_aux_lemma =>
                  clear hmm1
                  clear hmt1
                  clear hmf1
                  clear hmo
                  go_wp2_with fail
                  refine (DrawMakeMove_any A2 n2 c2 _ hcode2).mono ?_
                  rintro e wD ⟨v, f, t, rfl, hsv, hb⟩
                  replace hbw := bel_trans hbw hb
                  clear hb hcode2
                  obtain ⟨k0, k1⟩ := new_two wD (.int .i64 f) (.int .i64 t) 38
                  replace hbw := bel_trans hbw (bel_alloc wD (.cells #[.int .i64 f, .int .i64 t] 38))
                  go_wp2_with fail
                  refine (MakeMove_any v f t _ (by omega)).mono ?_
                  rintro e wN ⟨rfl, hb⟩
                  replace hbw := bel_trans hbw hb
                  replace k0 := pw_cell_below hb k0
                  replace k1 := pw_cell_below hb k1
                  clear hb
                  go_wp2_with fail
                  refine (specMakeMove_any v f t _ (by omega)).mono ?_
                  rintro e wN ⟨rfl, hb⟩
                  replace hbw := bel_trans hbw hb
                  replace k0 := pw_cell_below hb k0
                  replace k1 := pw_cell_below hb k1
                  clear hb
                  go_wp2_with fail
                  refine (CanMove_any v f t _ (by omega)).mono ?_
                  rintro e wN ⟨rfl, hb⟩
                  replace hbw := bel_trans hbw hb
                  replace k0 := pw_cell_below hb k0
                  replace k1 := pw_cell_below hb k1
                  clear hb
                  go_wp2_with fail
                  refine (specCanMove_any v f t _ (by omega)).mono ?_
                  rintro e wN ⟨rfl, hb⟩
                  replace hbw := bel_trans hbw hb
                  replace k0 := pw_cell_below hb k0
                  replace k1 := pw_cell_below hb k1
                  clear hb
                  go_wp2_with fail
                  refine (IsJump_any v f t _ (by omega)).mono ?_
                  rintro e wN ⟨rfl, hb⟩
                  replace hbw := bel_trans hbw hb
                  replace k0 := pw_cell_below hb k0
                  replace k1 := pw_cell_below hb k1
                  clear hb
                  go_wp2_with fail
                  refine (specIsJump_any v f t _ (by omega)).mono ?_
                  rintro e wN ⟨rfl, hb⟩
                  replace hbw := bel_trans hbw hb
                  replace k0 := pw_cell_below hb k0
                  replace k1 := pw_cell_below hb k1
                  clear hb
                  cases hk : mkOk (bL v) (f, t) with
                  | true =>
                    have hl2 := line_of_mk hk
                    go_wp2
                    go_ret
                    exact ⟨by rfl, hbw⟩
                  | false =>
                    cases hl2 : lineB (bL v) 12 with
                    | true =>
                      go_wp2
                      go_ret
                      exact ⟨by rfl, hbw⟩
                    | false =>
                      go_wp2
                      go_ret
                      exact ⟨by rfl, hbw⟩
    | false =>
      as_aux_lemma =>
        go_upto_region 18 with (fail)
        simp only [List.append]
        go_wp2_with fail
        refine (yMoves_bel _ _ _ _ _ _ hmm1 hmm2).mono ?_
        rintro e wN ⟨rfl, hb⟩
        replace hmm1 := hmm1.bel hb
        replace hmm2 := hmm2.bel hb
        replace hmt1 := hmt1.bel hb
        replace hmt2 := hmt2.bel hb
        replace hmf1 := hmf1.bel hb
        replace hmf2 := hmf2.bel hb
        replace hcode2 := hcode2.bel hb
        replace hbw := bel_trans hbw hb
        clear hb
        go_wp2_with fail
        refine (yMoves_bel _ _ _ _ _ _ hmt1 hmt2).mono ?_
        rintro e wN ⟨rfl, hb⟩
        replace hmm1 := hmm1.bel hb
        replace hmm2 := hmm2.bel hb
        replace hmt1 := hmt1.bel hb
        replace hmt2 := hmt2.bel hb
        replace hmf1 := hmf1.bel hb
        replace hmf2 := hmf2.bel hb
        replace hcode2 := hcode2.bel hb
        replace hbw := bel_trans hbw hb
        clear hb
        go_wp2_with fail
        refine (yMoves_bel _ _ _ _ _ _ hmf1 hmf2).mono ?_
        rintro e wN ⟨rfl, hb⟩
        replace hmm1 := hmm1.bel hb
        replace hmm2 := hmm2.bel hb
        replace hmt1 := hmt1.bel hb
        replace hmt2 := hmt2.bel hb
        replace hmf1 := hmf1.bel hb
        replace hmf2 := hmf2.bel hb
        replace hcode2 := hcode2.bel hb
        replace hbw := bel_trans hbw hb
        clear hb
        go_wp2_with fail
        refine (IsLine_any s _ (by omega)).mono ?_
        rintro e wN ⟨rfl, hb⟩
        replace hmm1 := hmm1.bel hb
        replace hmm2 := hmm2.bel hb
        replace hmt1 := hmt1.bel hb
        replace hmt2 := hmt2.bel hb
        replace hmf1 := hmf1.bel hb
        replace hmf2 := hmf2.bel hb
        replace hcode2 := hcode2.bel hb
        replace hbw := bel_trans hbw hb
        clear hb
        go_wp2_with fail
        refine (IsLine_any s _ (by omega)).mono ?_
        rintro e wN ⟨rfl, hb⟩
        replace hmm1 := hmm1.bel hb
        replace hmm2 := hmm2.bel hb
        replace hmt1 := hmt1.bel hb
        replace hmt2 := hmt2.bel hb
        replace hmf1 := hmf1.bel hb
        replace hmf2 := hmf2.bel hb
        replace hcode2 := hcode2.bel hb
        replace hbw := bel_trans hbw hb
        clear hb
        go_wp2_with fail
        refine (specIsLine_any s _ (by omega)).mono ?_
        rintro e wN ⟨rfl, rfl⟩
        clear hmm1
        clear hmm2
        clear hmt1
        clear hmt2
        clear hmf1
        clear hmf2
        go_wp2_with fail
        refine (DrawMakeMove_any A2 n2 c2 _ hcode2).mono ?_
        rintro e wD ⟨v, f, t, rfl, hsv, hb⟩
        replace hbw := bel_trans hbw hb
        clear hb hcode2
        obtain ⟨k0, k1⟩ := new_two wD (.int .i64 f) (.int .i64 t) 38
        replace hbw := bel_trans hbw (bel_alloc wD (.cells #[.int .i64 f, .int .i64 t] 38))
        go_wp2_with fail
        refine (MakeMove_any v f t _ (by omega)).mono ?_
        rintro e wN ⟨rfl, hb⟩
        replace hbw := bel_trans hbw hb
        replace k0 := pw_cell_below hb k0
        replace k1 := pw_cell_below hb k1
        clear hb
        go_wp2_with fail
        refine (specMakeMove_any v f t _ (by omega)).mono ?_
        rintro e wN ⟨rfl, hb⟩
        replace hbw := bel_trans hbw hb
        replace k0 := pw_cell_below hb k0
        replace k1 := pw_cell_below hb k1
        clear hb
        go_wp2_with fail
        refine (CanMove_any v f t _ (by omega)).mono ?_
        rintro e wN ⟨rfl, hb⟩
        replace hbw := bel_trans hbw hb
        replace k0 := pw_cell_below hb k0
        replace k1 := pw_cell_below hb k1
        clear hb
        go_wp2_with fail
        refine (specCanMove_any v f t _ (by omega)).mono ?_
        rintro e wN ⟨rfl, hb⟩
        replace hbw := bel_trans hbw hb
        replace k0 := pw_cell_below hb k0
        replace k1 := pw_cell_below hb k1
        clear hb
        go_wp2_with fail
        refine (IsJump_any v f t _ (by omega)).mono ?_
        rintro e wN ⟨rfl, hb⟩
        replace hbw := bel_trans hbw hb
        replace k0 := pw_cell_below hb k0
        replace k1 := pw_cell_below hb k1
        clear hb
        go_wp2_with fail
        refine (specIsJump_any v f t _ (by omega)).mono ?_
        rintro e wN ⟨rfl, hb⟩
        replace hbw := bel_trans hbw hb
        replace k0 := pw_cell_below hb k0
        replace k1 := pw_cell_below hb k1
        clear hb
        cases hk : mkOk (bL v) (f, t) with
        | true =>
          have hl2 := line_of_mk hk
          go_wp2
          go_ret
          exact ⟨by rfl, hbw⟩
        | false =>
          cases hl2 : lineB (bL v) 12 with
          | true =>
            go_wp2
            go_ret
            exact ⟨by rfl, hbw⟩
          | false =>
            go_wp2
            go_ret
            exact ⟨by rfl, hbw⟩
  · go_enter Tryz.func3, Tryz.ntmps3
    go_wp2_with fail
    refine (big_true A1 A2 n1 c1 n2 c2 _ hbig (by have := hcode1.1; omega) (by have := hcode2.1; omega)).mono ?_
    rintro e w' ⟨rfl, rfl⟩
    go_wp2
    go_ret
    exact ⟨rfl, Below.refl _ _⟩
end Go.Proofs.YtemicglkmnjibaaGreatDoor
