/-
  Lines that are drawn: no longer than told (walks); no condition but on sizes.
-/
import Derived.Test.YtemicglkmnjibaaGreatDoorDrawA
import Derived.Test.YtemicglkmnjibaaGreatDoorSpecE
namespace Go.Proofs.YtemicglkmnjibaaGreatDoor
open Go.RowKit
set_option linter.unusedVariables false
set_option linter.unusedSimpArgs false
theorem new_texts (w : World) (T : TypeId) (cs : List ByteArray) (lo m : Nat) (hn : cs.length ≤ 1000000) (h : ∀ s ∈ cs, lo ≤ s.size ∧ s.size ≤ m) :
    Texts (w.alloc (.cells (cs.map Value.string).toArray T)) (w.heap.size + 1) (some ⟨w.heap.size, 0, none⟩) cs.length lo m := by
  refine ⟨hn, fun j hj => ⟨_, cs[j], rfl, by show w.heap.size < _; omega, h _ (List.getElem_mem hj), ?_⟩⟩
  exact new_cells (cs.map Value.string) j _ (by simp [List.getElem?_map, hj])
theorem new_nums (w : World) (T : TypeId) (cs : List Int) (hn : cs.length ≤ 1000000) :
    Nums (w.alloc (.cells (cs.map (Value.int .i64)).toArray T)) (w.heap.size + 1) (some ⟨w.heap.size, 0, none⟩) cs.length := by
  refine ⟨hn, fun j hj => ⟨_, cs[j], rfl, by show w.heap.size < _; omega, ?_⟩⟩
  exact new_cells (cs.map (Value.int .i64)) j _ (by simp [List.getElem?_map, hj])
theorem only_alloc {a w : World} {g : Nat} (h : a.grownBy w (some g)) (o : Obj) : a.grownBy (w.alloc o) (some g) := only_below h ((Below.refl _ _).alloc (Nat.le_refl _) _)
theorem Cur.alloc {w : World} {g : Nat} {A : Option Addr} {n c M : Nat} (h : Cur w g A n c M) (o : Obj) : Cur (w.alloc o) g A n c M := h.below ((Below.refl _ _).alloc (Nat.le_refl _) _)
theorem Code.alloc {w : World} {B : Nat} {A : Option Addr} {n : Nat} (h : Code w B A n) (hB : B ≤ w.heap.size) (o : Obj) : Code (w.alloc o) B A n := h.keep fun i hi => Below.heap_alloc w o i (by omega)
theorem liFirst_any (a b c : Nat) (w : World) (ha : a ≤ 100000) (hb : b ≤ 100000) (hc : c ≤ 100000) :
    Calls Tryz.prog 86 #[.int .i64 a, .int .i64 b, .int .i64 c] w fun e w' => e = .returned (.string (bB (firstL a b c))) ∧ w = w' := by
  have t1 := Lib.hid fun W => liTimes_any 84 a W (by omega)
  have t2 := Lib.hid fun W => liTimes_any 46 b W (by omega)
  have t3 := Lib.hid fun W => liTimes_any 70 c W (by omega)
  have z1 := bB_size (List.replicate a 84)
  have z2 := bB_size (List.replicate b 46)
  have z3 := bB_size (List.replicate c 70)
  rw [List.length_replicate] at z1 z2 z3
  have z4 := bB_size (List.replicate a 84 ++ List.replicate b 46)
  rw [List.length_append, List.length_replicate, List.length_replicate] at z4
  have a1 : bB (List.replicate a 84) ++ bB (List.replicate b 46) = bB (List.replicate a 84 ++ List.replicate b 46) := bB_append _ _
  have a2 : bB (List.replicate a 84 ++ List.replicate b 46) ++ bB (List.replicate c 70) = bB (firstL a b c) := bB_append _ _
  go_enter Tryz.func86, Tryz.ntmps86
  go_wp2_with fail
  refine (t1.out _).mono ?_; rintro e w' ⟨rfl, rfl⟩
  go_wp2_with fail
  refine (t2.out _).mono ?_; rintro e w' ⟨rfl, rfl⟩
  go_wp2_with fail
  refine (t3.out _).mono ?_; rintro e w' ⟨rfl, rfl⟩
  go_wp2_with fail
  go_ret
  exact ⟨rfl, rfl⟩
set_option maxRecDepth 100000 in
set_option maxHeartbeats 2000000 in
theorem sureLine_any (g : Nat) (A : Option Addr) (n c M B m : Nat) (w : World) (hB : B ≤ g) (hcode : Code w B A n) (hcur : Cur w g A n c M) (hM : M ≤ 800000000) (hm1 : 1 ≤ m) (hm2 : m ≤ 20) :
    Calls Tryz.prog 109 #[.pointer (some ⟨g, 0, none⟩), .int .i64 m] w fun e w' => ∃ s : ByteArray, e = .returned (.string s) ∧ s.size ≤ 20 ∧ Cur w' g A n c (M + 50) ∧ w.grownBy w' (some g) := by
  have hgs : B ≤ w.heap.size := by have := hcur.lt; omega
  go_enter Tryz.func109, Tryz.ntmps109
  go_wp2_with fail
  refine (pick_any g A n c M B m _ hB hcode hcur (by omega) (by omega) (by omega)).mono ?_
  rintro e w1 ⟨r, rfl, ⟨hr0, hr1⟩, hcur1, hg1⟩
  obtain ⟨k0, rfl⟩ := Int.eq_ofNat_of_zero_le hr0
  have hk0 : (k0 : Int) < m := hr1 (by omega)
  clear hr1
  go_wp2
  go_loopg [5, 6] (k0 + 1) (fun kq v i wr => ∃ (j : Nat) (s : ByteArray), j ≤ kq ∧ i = .int .i64 j ∧ v = .string s ∧ s.size + j ≤ k0 + 1 ∧ k0 + 1 ≤ s.size + j ∧ Cur wr g A n c (M + 2 + 2 * s.size) ∧ w.grownBy wr (some g))
  case atStart => exact ⟨k0 + 1, ⟨#[]⟩, by omega, by congr 1; omega, rfl, by show 0 + (k0 + 1) ≤ _; omega, by show _ ≤ 0 + (k0 + 1); omega, hcur1, hg1⟩
  case round =>
    obtain ⟨j, s, hj, rfl, rfl, hsz1, hsz2, hcur2, hg2⟩ := hrel
    by_cases h1 : 1 ≤ j
    · have hlt := hcur2.lt
      have hcd := hcode.only hB hgs hg2
      have hbw : B ≤ wr.heap.size := by omega
      have htx := new_texts wr 9 [⟨#[84]⟩, ⟨#[70]⟩, ⟨#[46]⟩, ⟨#[84]⟩, ⟨#[70]⟩] 1 1 (by simp) (by simp; exact ⟨by decide, by decide, by decide⟩)
      have hof := of_any g A n c (M + 2 + 2 * s.size) B (some ⟨wr.heap.size, 0, none⟩) 5 5 1 1 (wr.heap.size + 1) _ hB (hcd.alloc hbw (.cells #[.string ⟨#[84]⟩, .string ⟨#[70]⟩, .string ⟨#[46]⟩, .string ⟨#[84]⟩, .string ⟨#[70]⟩] 9)) (hcur2.alloc _) (by omega) htx (by omega) (by intro ad e; injection e with e; subst e; show wr.heap.size ≠ g; omega)
      have Hof := Lib.hid hof
      clear hof htx
      go_wp2_with (go_at_call 108; refine Hof.out.mono ?_; rintro e w2 ⟨s2, rfl, ⟨hs2a, hs2b⟩, hcur3, hg3⟩)
      go_roundg (j - 1)
      case measure => omega
      case rel =>
        have hz : (s ++ s2).size = s.size + 1 := by rw [ByteArray.size_append]; omega
        exact ⟨j - 1, s ++ s2, by omega, by congr 1; omega, rfl, by omega, by omega, hcur3.mono (by omega), only_then (only_alloc hg2 _) hg3⟩
    · have hj0 : j = 0 := by omega
      subst hj0
      have hs1 : 1 ≤ s.size := by omega
      have hs2 : s.size ≤ 20 := by omega
      have hcd := hcode.only hB hgs hg2
      clear hsz1 hsz2
      by_cases hz : (bL s).count 46 = 0
      · have ez : (((bL s).count 46 : Nat) == 0) = true := beqTN hz
        have ez2 : ((((bL s).count 46 : Nat) : Int) == 0) = true := beqT (by omega)
        clear hz
        go_wp2_with fail
        refine (liCount_any s 46 _ (by omega)).mono ?_
        rintro e w2 ⟨rfl, rfl⟩
        go_wp2_with fail
        refine (one_any g A n c _ B 8 _ hB hcd hcur2 (by omega) (by omega) (by omega)).mono ?_
        rintro e w3 ⟨b, rfl, hcur3, hg3⟩
        have hgs2 : B ≤ wr.heap.size := by have := hcur2.lt; omega
        cases b with
        | true =>
          go_wp2
          go_ret
          exact ⟨s, rfl, hs2, hcur3.mono (by omega), only_then hg2 hg3⟩
        | false =>
          go_wp2_with fail
          refine (pick_any g A n c _ B s.size _ hB (hcd.only hB hgs2 hg3) hcur3 (by omega) (by omega) (by omega)).mono ?_
          rintro e w4 ⟨r, rfl, ⟨hr0, hr1⟩, hcur4, hg4⟩
          obtain ⟨q, rfl⟩ := Int.eq_ofNat_of_zero_le hr0
          have hq : (q : Int) < s.size := hr1 (by omega)
          clear hr1
          go_wp2_with fail
          refine (liPut_any s q 46 _ (by omega) (by omega)).mono ?_
          rintro e w5 ⟨rfl, nn, rfl⟩
          go_wp2
          go_ret
          exact ⟨_, rfl, by rw [bB_size, List.length_set, bL_length]; exact hs2, Cur.mono (M := M + 2 + 2 * s.size + 2 + 2) hcur4 (by omega), only_drewN' (only_then (only_then hg2 hg3) hg4) _⟩
      · have ez : (((bL s).count 46 : Nat) == 0) = false := beqFN hz
        have ez2 : ((((bL s).count 46 : Nat) : Int) == 0) = false := beqF (by omega)
        clear hz
        go_wp2_with fail
        refine (liCount_any s 46 _ (by omega)).mono ?_
        rintro e w2 ⟨rfl, rfl⟩
        go_wp2_with fail
        go_ret
        exact ⟨s, rfl, hs2, hcur2.mono (by omega), hg2⟩
set_option maxRecDepth 100000 in
set_option maxHeartbeats 4000000 in
theorem line_any (g : Nat) (A : Option Addr) (n c M B : Nat) (w : World) (hB : B ≤ g) (hcode : Code w B A n) (hcur : Cur w g A n c M) (hM : M ≤ 700000000) :
    Calls Tryz.prog 87 #[.pointer (some ⟨g, 0, none⟩)] w fun e w' => ∃ s : ByteArray, e = .returned (.string s) ∧ s.size ≤ 20 ∧ Cur w' g A n c (M + 60) ∧ w.grownBy w' (some g) := by
  have hgs : B ≤ w.heap.size := by have := hcur.lt; omega
  go_enter Tryz.func87, Tryz.ntmps87
  go_wp2_with fail
  refine (pick_any g A n c M B 16 _ hB hcode hcur (by omega) (by omega) (by omega)).mono ?_
  rintro e w1 ⟨r, rfl, ⟨hr0, hr1⟩, hcur1, hg1⟩
  clear hr1
  have hcd := hcode.only hB hgs hg1
  have hlt := hcur1.lt
  have hbw : B ≤ w1.heap.size := by omega
  by_cases h0 : r = 0
  · subst h0
    have htx := new_texts w1 9 [⟨#[]⟩, ⟨#[120]⟩, ⟨#[84, 32, 70]⟩, ⟨#[84, 46, 70, 46, 84, 46, 70, 46, 84, 46, 70, 46, 84]⟩, ⟨#[116, 46, 102]⟩] 0 20 (by simp) (by simp; exact ⟨by decide, by decide, by decide, by decide, by decide⟩)
    have hof := of_any g A n c (M + 2) B (some ⟨w1.heap.size, 0, none⟩) 5 5 0 20 (w1.heap.size + 1) _ hB (hcd.alloc hbw (.cells #[.string ⟨#[]⟩, .string ⟨#[120]⟩, .string ⟨#[84, 32, 70]⟩, .string ⟨#[84, 46, 70, 46, 84, 46, 70, 46, 84, 46, 70, 46, 84]⟩, .string ⟨#[116, 46, 102]⟩] 9)) (hcur1.alloc _) (by omega) htx (by omega) (by intro ad e; injection e with e; subst e; show w1.heap.size ≠ g; omega)
    have Hof := Lib.hid hof
    clear hof htx
    go_wp2_with (go_at_call 108; refine Hof.out.mono ?_; rintro e w2 ⟨s2, rfl, ⟨hs2a, hs2b⟩, hcur3, hg3⟩)
    go_ret
    exact ⟨s2, rfl, hs2b, hcur3.mono (by omega), only_then (only_alloc hg1 _) hg3⟩
  · have e0 : (r == 0) = false := beqF h0
    by_cases h3 : r ≤ 3
    · have hcs : r = 1 ∨ r = 2 ∨ r = 3 := by omega
      clear h0 h3 e0
      rcases hcs with rfl | rfl | rfl
      all_goals
        go_wp2_with fail
        refine (pick_any g A n c _ B 3 _ hB hcd hcur1 (by omega) (by omega) (by omega)).mono ?_
        rintro e w2 ⟨p, rfl, ⟨hp0, hp1⟩, hcur2, hg2⟩
        obtain ⟨p, rfl⟩ := Int.eq_ofNat_of_zero_le hp0
        have hp : (p : Int) < 3 := hp1 (by omega)
        have hcd2 := hcd.only hB hbw hg2
        have hbw2 : B ≤ w2.heap.size := by have := hcur2.lt; omega
        clear hp1
        go_wp2_with fail
        refine (pick_any g A n c _ B 2 _ hB hcd2 hcur2 (by omega) (by omega) (by omega)).mono ?_
        rintro e w3 ⟨q, rfl, ⟨hq0, hq1⟩, hcur3, hg3⟩
        obtain ⟨q, rfl⟩ := Int.eq_ofNat_of_zero_le hq0
        have hq : (q : Int) < 2 := hq1 (by omega)
        have hcd3 := hcd2.only hB hbw2 hg3
        clear hq1
        go_wp2_with fail
        refine (pick_any g A n c _ B 3 _ hB hcd3 hcur3 (by omega) (by omega) (by omega)).mono ?_
        rintro e w4 ⟨t, rfl, ⟨ht0, ht1⟩, hcur4, hg4⟩
        obtain ⟨t, rfl⟩ := Int.eq_ofNat_of_zero_le ht0
        have ht : (t : Int) < 3 := ht1 (by omega)
        have hff := fun W => liFirst_any (1 + p) (1 + q) (1 + t) W (by omega) (by omega) (by omega)
        simp only [Int.natCast_add, Int.cast_ofNat_Int] at hff
        have Hff := Lib.hid hff
        have hsz : (bB (firstL (1 + p) (1 + q) (1 + t))).size ≤ 20 := by rw [bB_size]; simp [firstL]; omega
        clear ht1 hff
        go_wp2_with fail
        refine (Hff.out _).mono ?_
        rintro e w5 ⟨rfl, rfl⟩
        go_wp2
        go_ret
        exact ⟨_, rfl, hsz, Cur.mono (M := M + 2 + 2 + 2 + 2) hcur4 (by omega), only_then (only_then (only_then hg1 hg2) hg3) hg4⟩
    · have e1 : (r == 1) = false := beqF (by omega)
      have e2 : (r == 2) = false := beqF (by omega)
      have e3 : (r == 3) = false := beqF (by omega)
      clear h0 h3
      go_wp2_with (go_at_call 109; refine (sureLine_any g A n c (M + 2) B 9 _ hB hcd hcur1 (by omega) (by omega) (by omega)).mono ?_; rintro e w2 ⟨s2, rfl, hs2, hcur3, hg3⟩)
      go_ret
      exact ⟨s2, rfl, hs2, hcur3.mono (by omega), only_then hg1 hg3⟩
theorem new_cur (w : World) (A : Option Addr) (n c : Nat) : Cur (w.alloc (.cells #[.slice A n c, .int .i64 0, .int .u64 0] 75)) w.heap.size A n c 0 := ⟨0, 0, by omega, heap_alloc_new w _⟩
theorem below_only {w w' : World} {o : Obj} (h : (w.alloc o).grownBy w' (some w.heap.size)) : Below w.heap.size w w' :=
  ⟨h.os, h.tape, h.output, by have := h.size; simp at this; omega, fun i hi => (h.block i (by simp; omega) (by intro e; injection e; omega)).trans (Below.heap_alloc w o i hi)⟩
theorem DrawIsLine_any (A : Option Addr) (n c : Nat) (w : World) (hcode : Code w w.heap.size A n) :
    Calls Tryz.prog 52 #[.slice A n c] w fun e w' => ∃ s : ByteArray, e = .returned (.string s) ∧ s.size ≤ 20 ∧ Below w.heap.size w w' := by
  have hl := Lib.hid (line_any w.heap.size A n c 0 w.heap.size _ (Nat.le_refl _) (hcode.alloc (Nat.le_refl _) (.cells #[.slice A n c, .int .i64 0, .int .u64 0] 75)) (new_cur w A n c) (by omega))
  go_enter Tryz.func52, Tryz.ntmps52
  go_wp2_with (go_at_call 87; refine hl.out.mono ?_; rintro e w1 ⟨s, rfl, hs, hcur, hg⟩)
  go_ret
  exact ⟨s, rfl, hs, below_only hg⟩
theorem DrawMovesOf_any (A : Option Addr) (n c : Nat) (w : World) (hcode : Code w w.heap.size A n) :
    Calls Tryz.prog 6 #[.slice A n c] w fun e w' => ∃ s : ByteArray, e = .returned (.string s) ∧ s.size ≤ 20 ∧ Below w.heap.size w w' := by
  go_enter Tryz.func6, Tryz.ntmps6
  go_wp2_with (go_at_call 52; refine (DrawIsLine_any A n c _ hcode).mono ?_; rintro e w1 ⟨s, rfl, hs, hb⟩)
  go_ret
  exact ⟨s, rfl, hs, hb⟩
end Go.Proofs.YtemicglkmnjibaaGreatDoor
