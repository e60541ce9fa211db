/-
  The cursor over bytes by which inputs are drawn: what its methods answer lies in bounds (walks); no condition but on sizes.
-/
import Derived.Test.YtemicglkmnjibaaGreatDoorLineA
import Derived.Deep.Draws
import Derived.Laws.BitsAllLaws
import Derived.Laws.BitsLemmas
namespace Go.Proofs.YtemicglkmnjibaaGreatDoor
open Go.RowKit
set_option linter.unusedVariables false
set_option linter.unusedSimpArgs false
/-- The bytes of a slice lie in memory below block B. -/
def Code (w : World) (B : Nat) (A : Option Addr) (n : Nat) : Prop :=
  n ≤ 140737488351232 ∧ ∀ j, j < n → ∃ ad b, A = some ad ∧ ad.block < B ∧ b < 256 ∧ w.cell? (ad.add j) = some (.int .u8 ((b : Nat) : Int))
/-- Block g holds a cursor that has taken at most M steps. -/
def Cur (w : World) (g : Nat) (A : Option Addr) (n c M : Nat) : Prop :=
  ∃ (a : Nat) (s : Int), a ≤ M ∧ w.heap[g]? = some (.cells #[.slice A n c, .int .i64 a, .int .u64 s] 75 (0, 0))
theorem block_add (a : Addr) (n : Nat) : (a.add n).block = a.block := by unfold Addr.add; split <;> rfl
theorem Code.keep {w w' : World} {B : Nat} {A : Option Addr} {n : Nat} (h : Code w B A n) (hk : ∀ i, i < B → w'.heap[i]? = w.heap[i]?) : Code w' B A n := by
  refine ⟨h.1, fun j hj => ?_⟩
  obtain ⟨ad, b, h1, h2, h3, h4⟩ := h.2 j hj
  refine ⟨ad, b, h1, h2, h3, ?_⟩
  rw [World.cell?_of_block (hk _ (by rw [block_add]; exact h2))]
  exact h4
theorem Code.only {w w' : World} {B g : Nat} {A : Option Addr} {n : Nat} (h : Code w B A n) (hB : B ≤ g) (hs : B ≤ w.heap.size) (hg : w.grownBy w' (some g)) : Code w' B A n :=
  h.keep fun i hi => hg.block i (by omega) (by intro e; injection e; omega)
theorem Cur.lt {w : World} {g : Nat} {A : Option Addr} {n c M : Nat} (h : Cur w g A n c M) : g < w.heap.size := by
  obtain ⟨a, s, _, hh⟩ := h
  exact (Array.getElem?_eq_some_iff.1 hh).1
theorem Cur.mono {w : World} {g : Nat} {A : Option Addr} {n c M M' : Nat} (h : Cur w g A n c M) (hm : M ≤ M') : Cur w g A n c M' := by
  obtain ⟨a, s, h1, hh⟩ := h
  exact ⟨a, s, by omega, hh⟩
theorem Cur.same {w w' : World} {g : Nat} {A : Option Addr} {n c M : Nat} (h : Cur w g A n c M) (he : w'.heap[g]? = w.heap[g]?) : Cur w' g A n c M := by
  obtain ⟨a, s, h1, hh⟩ := h
  exact ⟨a, s, h1, he.trans hh⟩
theorem Cur.below {w w' : World} {g : Nat} {A : Option Addr} {n c M : Nat} (h : Cur w g A n c M) (hb : Below w.heap.size w w') : Cur w' g A n c M := h.same (hb.block g h.lt)
theorem only_below {a b c : World} {g : Nat} (h : a.grownBy b (some g)) (k : Below b.heap.size b c) : a.grownBy c (some g) :=
  ⟨k.os.trans h.os, k.tape.trans h.tape, k.output.trans h.output, Nat.le_trans h.size k.size, fun i hi hne => (k.block i (Nat.lt_of_lt_of_le hi h.size)).trans (h.block i hi hne)⟩
theorem only_then {a b c : World} {g : Nat} (h : a.grownBy b (some g)) (k : b.grownBy c (some g)) : a.grownBy c (some g) :=
  ⟨k.os.trans h.os, k.tape.trans h.tape, k.output.trans h.output, Nat.le_trans h.size k.size, fun i hi hne => (k.block i (Nat.lt_of_lt_of_le hi h.size) hne).trans (h.block i hi hne)⟩
theorem only_set {a w : World} {g : Nat} (h : a.grownBy w (some g)) (j : Nat) (u : Value) : a.grownBy (w.setCell ⟨g, j, none⟩ u) (some g) :=
  ⟨h.os, h.tape, h.output, by simpa [World.setCell] using h.size, fun i hi hne => (Below.heap_setCell w ⟨g, j, none⟩ u i (fun e => hne (by rw [e]))).trans (h.block i hi hne)⟩
theorem only_drewN' {a w : World} {g : Nat} (h : a.grownBy w (some g)) (n : Nat) : a.grownBy (w.drewN n) (some g) := ⟨h.os, h.tape, h.output, h.size, h.block⟩
theorem cur_set {w : World} {g : Nat} {cs : Array Value} {T : TypeId} (h : w.heap[g]? = some (.cells cs T (0, 0))) (j : Nat) (u : Value) : (w.setCell ⟨g, j, none⟩ u).heap[g]? = some (.cells (cs.setIfInBounds j u) T (0, 0)) := by
  simp [World.setCell, Array.getElem?_modify, h]
theorem and255 (x : Int) : 0 ≤ bits .and .u64 x 255 ∧ bits .and .u64 x 255 ≤ 255 := by
  show 0 ≤ IntKind.u64.wrap ((BitVec.ofInt 64 x &&& BitVec.ofInt 64 255).toNat : Int) ∧ IntKind.u64.wrap ((BitVec.ofInt 64 x &&& BitVec.ofInt 64 255).toNat : Int) ≤ 255
  have h : (BitVec.ofInt 64 x &&& BitVec.ofInt 64 255).toNat ≤ 255 := by
    rw [BitVec.toNat_and]
    exact Nat.le_trans Nat.and_le_right (by decide)
  generalize (BitVec.ofInt 64 x &&& BitVec.ofInt 64 255).toNat = m at h
  have : IntKind.u64.wrap (m : Int) = m := by rw [IntKind.wrap_u64]; omega
  rw [this]; omega
theorem and255w (x : Int) : 0 ≤ wrap64 (bits .and .u64 x 255) ∧ wrap64 (bits .and .u64 x 255) ≤ 255 := by
  have := and255 x
  unfold wrap64
  omega
set_option maxRecDepth 100000 in
set_option maxHeartbeats 4000000 in
theorem next_any (g : Nat) (A : Option Addr) (n c M B : Nat) (w : World) (hB : B ≤ g) (hcode : Code w B A n) (hcur : Cur w g A n c M) (hM : M ≤ 1000000000) :
    Calls Tryz.prog 107 #[.pointer (some ⟨g, 0, none⟩)] w fun e w' => ∃ r : Int, e = .returned (.int .i64 r) ∧ (0 ≤ r ∧ r ≤ 255) ∧ Cur w' g A n c (M + 1) ∧ w.grownBy w' (some g) := by
  obtain ⟨a, s, ha, hh⟩ := hcur
  have c0 : w.cell? ⟨g, 0, none⟩ = some (.slice A n c) := by simp [World.cell?, hh]
  have c1 : w.cell? ⟨g, 1, none⟩ = some (.int .i64 a) := by simp [World.cell?, hh]
  have c2 : w.cell? ⟨g, 2, none⟩ = some (.int .u64 s) := by simp [World.cell?, hh]
  have f1 : w.frozen? ⟨g, 1, none⟩ = false := by simp [World.frozen?, hh]
  have f2 : w.frozen? ⟨g, 2, none⟩ = false := by simp [World.frozen?, hh]
  have hn := hcode.1
  have Hh := Lib.hid hh
  by_cases hlt : a < n
  · obtain ⟨ad, b, hA, hbl, hb, hcell⟩ := hcode.2 a hlt
    have hlt' : (a : Int) < n := by omega
    have hle' : (a : Int) + 1 ≤ n := by omega
    have hdec : decide (a < n) = true := decide_eq_true hlt
    subst hA
    clear hh hcode hlt
    go_enter Tryz.func107, Tryz.ntmps107
    go_wp2
    go_quiet (fail)
    go_wp2
    go_quiet (fail)
    go_wp2
    go_quiet (fail)
    go_wp2
    go_ret
    exact ⟨b, rfl, by omega, ⟨a + 1, _, by omega, cur_set (cur_set (j := 1) (w := w.drewN _) (u := .int .i64 (a + 1)) Hh.out) 2 _⟩, only_drewN' (only_set (only_set (only_drewN' (World.grownBy.refl w _) _) _ _) _ _) _⟩
  · have hlt' : ¬ (a : Int) < n := by omega
    have hdec : decide (a < n) = false := decide_eq_false hlt
    have hdec2 : decide ((a : Int) + 1 ≤ n) = false := decide_eq_false (by omega)
    clear hh hcode hlt
    go_enter Tryz.func107, Tryz.ntmps107
    go_wp2
    go_quiet (fail)
    go_wp2
    go_quiet (fail)
    go_wp2
    go_ret
    exact ⟨_, rfl, and255w _, ⟨a + 1, _, by omega, cur_set (cur_set (j := 1) (w := w.drewN _) (u := .int .i64 (a + 1)) Hh.out) 2 _⟩, only_drewN' (only_set (only_set (only_drewN' (World.grownBy.refl w _) _) _ _) _ _) _⟩
set_option maxRecDepth 100000 in
set_option maxHeartbeats 2000000 in
theorem pick_any (g : Nat) (A : Option Addr) (n c M B : Nat) (k : Int) (w : World) (hB : B ≤ g) (hcode : Code w B A n) (hcur : Cur w g A n c M) (hM : M ≤ 900000000) (hk0 : -1000000 ≤ k) (hk1 : k ≤ 1000000) :
    Calls Tryz.prog 83 #[.pointer (some ⟨g, 0, none⟩), .int .i64 k] w fun e w' => ∃ r : Int, e = .returned (.int .i64 r) ∧ (0 ≤ r ∧ (1 ≤ k → r < k)) ∧ Cur w' g A n c (M + 2) ∧ w.grownBy w' (some g) := by
  by_cases h1 : k ≤ 1
  · go_enter Tryz.func83, Tryz.ntmps83
    go_wp2
    go_ret
    exact ⟨0, rfl, ⟨by omega, fun h => by omega⟩, hcur.mono (by omega), World.grownBy.refl w _⟩
  · have h1' : decide (k ≤ 1) = false := decide_eq_false h1
    have hgs : B ≤ w.heap.size := by have := hcur.lt; omega
    by_cases h2 : k ≤ 200
    · have h2' : decide (200 < k) = false := decide_eq_false (by omega)
      have hkz : (k == 0) = false := beqF (by omega)
      go_enter Tryz.func83, Tryz.ntmps83
      go_wp2_with (go_at_call 107; refine (next_any g A n c M B _ hB hcode hcur (by omega)).mono ?_; rintro e w1 ⟨r, rfl, ⟨hr0, hr1⟩, hcur1, hg1⟩)
      go_ret
      exact ⟨_, rfl, ⟨Int.emod_nonneg _ (by omega), fun _ => Int.emod_lt_of_pos _ (by omega)⟩, hcur1.mono (by omega), hg1⟩
    · have h2' : decide (200 < k) = true := decide_eq_true (by omega)
      have hkz : (k == 0) = false := beqF (by omega)
      go_enter Tryz.func83, Tryz.ntmps83
      go_wp2_with fail
      refine (next_any g A n c M B _ hB hcode hcur (by omega)).mono ?_
      rintro e w1 ⟨r, rfl, ⟨hr0, hr1⟩, hcur1, hg1⟩
      go_wp2_with fail
      refine (next_any g A n c (M + 1) B _ hB (hcode.only hB hgs hg1) hcur1 (by omega)).mono ?_
      rintro e w2 ⟨r2, rfl, ⟨hq0, hq1⟩, hcur2, hg2⟩
      go_wp2_with fail
      go_ret
      exact ⟨_, rfl, ⟨Int.emod_nonneg _ (by omega), fun _ => Int.emod_lt_of_pos _ (by omega)⟩, hcur2, only_then hg1 hg2⟩
theorem one_any (g : Nat) (A : Option Addr) (n c M B : Nat) (k : Int) (w : World) (hB : B ≤ g) (hcode : Code w B A n) (hcur : Cur w g A n c M) (hM : M ≤ 900000000) (hk0 : -1000000 ≤ k) (hk1 : k ≤ 1000000) :
    Calls Tryz.prog 98 #[.pointer (some ⟨g, 0, none⟩), .int .i64 k] w fun e w' => ∃ b : Bool, e = .returned (.bool b) ∧ Cur w' g A n c (M + 2) ∧ w.grownBy w' (some g) := by
  go_enter Tryz.func98, Tryz.ntmps98
  go_wp2_with (go_at_call 83; refine (pick_any g A n c M B k _ hB hcode hcur hM hk0 hk1).mono ?_; rintro e w1 ⟨r, rfl, hr, hcur1, hg1⟩)
  go_ret
  exact ⟨_, rfl, hcur1, hg1⟩
/-- A slice of texts, each no shorter than lo and no longer than m, in memory below block B. -/
def Texts (w : World) (B : Nat) (A : Option Addr) (n lo m : Nat) : Prop := n ≤ 1000000 ∧ ∀ j, j < n → ∃ ad s, A = some ad ∧ ad.block < B ∧ (lo ≤ s.size ∧ s.size ≤ m) ∧ w.cell? (ad.add j) = some (.string s)
/-- A slice of small whole numbers in memory below block B. -/
def Nums (w : World) (B : Nat) (A : Option Addr) (n : Nat) : Prop := n ≤ 1000000 ∧ ∀ j, j < n → ∃ ad x, A = some ad ∧ ad.block < B ∧ w.cell? (ad.add j) = some (.int .i64 x)
set_option maxHeartbeats 2000000 in
theorem of_any (g : Nat) (A : Option Addr) (n c M B : Nat) (A2 : Option Addr) (n2 c2 lo2 m2 B2 : Nat) (w : World) (hB : B ≤ g) (hcode : Code w B A n) (hcur : Cur w g A n c M) (hM : M ≤ 900000000) (ht : Texts w B2 A2 n2 lo2 m2) (h1 : 1 ≤ n2) (hne : ∀ ad, A2 = some ad → ad.block ≠ g) :
    Calls Tryz.prog 108 #[.pointer (some ⟨g, 0, none⟩), .slice A2 n2 c2] w fun e w' => ∃ s : ByteArray, e = .returned (.string s) ∧ (lo2 ≤ s.size ∧ s.size ≤ m2) ∧ Cur w' g A n c (M + 2) ∧ w.grownBy w' (some g) := by
  have hn2 := ht.1
  go_enter Tryz.func108, Tryz.ntmps108
  go_wp2_with fail
  refine (pick_any g A n c M B n2 _ hB hcode hcur hM (by omega) (by omega)).mono ?_
  rintro e w1 ⟨r, rfl, ⟨hr0, hr1⟩, hcur1, hg1⟩
  obtain ⟨j, rfl⟩ := Int.eq_ofNat_of_zero_le hr0
  have hjn : (j : Int) < n2 := hr1 (by omega)
  obtain ⟨ad, s, rfl, hbl, hsz, hc⟩ := ht.2 j (by omega)
  have hc1 : w1.cell? (ad.add j) = some (.string s) := hg1.cell hc (by rw [block_add]; intro e; injection e with e; exact hne ad rfl e)
  clear hr1 hc
  go_wp2
  go_ret
  exact ⟨s, rfl, hsz, hcur1, hg1⟩
set_option maxHeartbeats 2000000 in
theorem among_any (g : Nat) (A : Option Addr) (n c M B : Nat) (A2 : Option Addr) (n2 c2 B2 : Nat) (w : World) (hB : B ≤ g) (hcode : Code w B A n) (hcur : Cur w g A n c M) (hM : M ≤ 900000000) (ht : Nums w B2 A2 n2) (h1 : 1 ≤ n2) (hne : ∀ ad, A2 = some ad → ad.block ≠ g) :
    Calls Tryz.prog 99 #[.pointer (some ⟨g, 0, none⟩), .slice A2 n2 c2] w fun e w' => ∃ x : Int, e = .returned (.int .i64 x) ∧ Cur w' g A n c (M + 2) ∧ w.grownBy w' (some g) := by
  have hn2 := ht.1
  go_enter Tryz.func99, Tryz.ntmps99
  go_wp2_with fail
  refine (pick_any g A n c M B n2 _ hB hcode hcur hM (by omega) (by omega)).mono ?_
  rintro e w1 ⟨r, rfl, ⟨hr0, hr1⟩, hcur1, hg1⟩
  obtain ⟨j, rfl⟩ := Int.eq_ofNat_of_zero_le hr0
  have hjn : (j : Int) < n2 := hr1 (by omega)
  obtain ⟨ad, x, rfl, hbl, hc⟩ := ht.2 j (by omega)
  have hc1 : w1.cell? (ad.add j) = some (.int .i64 x) := hg1.cell hc (by rw [block_add]; intro e; injection e with e; exact hne ad rfl e)
  clear hr1 hc
  go_wp2
  go_ret
  exact ⟨x, rfl, hcur1, hg1⟩
end Go.Proofs.YtemicglkmnjibaaGreatDoor
