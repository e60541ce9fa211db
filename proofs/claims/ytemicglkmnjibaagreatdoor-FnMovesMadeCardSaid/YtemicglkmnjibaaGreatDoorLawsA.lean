/-
  The laws' own helpers over rows of moves (walks).
-/
import Derived.Test.YtemicglkmnjibaaGreatDoorDrawB
namespace Go.Proofs.YtemicglkmnjibaaGreatDoor
open Go.RowKit
set_option linter.unusedVariables false
set_option linter.unusedSimpArgs false
/-- A slice of moves, in memory below block B. -/
def MvAt (w : World) (B : Nat) (A : Option Addr) (ms : List (Int × Int)) : Prop :=
  ms.length ≤ 10000000 ∧ ∀ (j : Nat) (f t : Int), ms[j]? = some (f, t) → ∃ ad : Addr, A = some ad ∧ ad.block < B ∧ w.cell? (ad.add (j * 2)) = some (.int .i64 f) ∧ w.cell? ⟨(ad.add (j * 2)).block, (ad.add (j * 2)).off + 1, none⟩ = some (.int .i64 t)
theorem MvAt.keep {w w' : World} {B : Nat} {A : Option Addr} {ms : List (Int × Int)} (h : MvAt w B A ms) (hk : ∀ i, i < B → w'.heap[i]? = w.heap[i]?) : MvAt w' B A ms := by
  refine ⟨h.1, fun j f t hj => ?_⟩
  obtain ⟨ad, h1, h2, h3, h4⟩ := h.2 j f t hj
  refine ⟨ad, h1, h2, ?_, ?_⟩
  · rw [World.cell?_of_block (hk _ (by rw [block_add]; exact h2))]; exact h3
  · rw [World.cell?_of_block (hk _ (by show (ad.add _).block < B; rw [block_add]; exact h2))]; exact h4
theorem mvCells_at : ∀ (ms : List (Int × Int)) (j : Nat) (f t : Int), ms[j]? = some (f, t) → (mvCells ms)[j * 2]? = some (.int .i64 f) ∧ (mvCells ms)[j * 2 + 1]? = some (.int .i64 t)
  | [], j, f, t, h => by simp at h
  | m :: ms, 0, f, t, h => by
    simp at h; subst h; exact ⟨rfl, rfl⟩
  | m :: ms, j + 1, f, t, h => by
    have := mvCells_at ms j f t (by simpa using h)
    have e1 : (j + 1) * 2 = j * 2 + 1 + 1 := by omega
    rw [e1]
    exact this
/-- What a call returned as a row of its own can be read. -/
theorem own_MvAt {w : World} {base : Nat} {e : TypeId} {v : Value} {ms : List (Int × Int)} (h : w.ownsRow base e 2 v ms.length (mvCells ms)) (hl : ms.length ≤ 10000000) :
    ∃ A c, v = .slice A ms.length c ∧ MvAt w w.heap.size A ms := by
  rcases h.2 with ⟨hv, hn⟩ | ⟨g, cap, cur, rfl, hb, hg, hr⟩
  · refine ⟨none, 0, by rw [hv, hn], hl, fun j f t hj => ?_⟩
    have : ms = [] := List.eq_nil_of_length_eq_zero hn
    subst this; simp at hj
  · refine ⟨_, cap, rfl, hl, fun j f t hj => ⟨_, rfl, (Array.getElem?_eq_some_iff.1 hg).1, ?_, ?_⟩⟩
    · exact h.cells rfl _ _ (mvCells_at ms j f t hj).1
    · have := h.cells (g := g) rfl _ _ (mvCells_at ms j f t hj).2
      have e2 : (⟨g, 0, none⟩ : Addr).add (j * 2 + 1) = ⟨((⟨g, 0, none⟩ : Addr).add (j * 2)).block, ((⟨g, 0, none⟩ : Addr).add (j * 2)).off + 1, none⟩ := by
        unfold Addr.add; split <;> split <;> simp_all
      rw [← e2]; exact this
  --FN laws.big
theorem big_false (A1 A2 : Option Addr) (n1 c1 n2 c2 : Nat) (w : World) (h : n1 + n2 ≤ 1048576) : Calls Tryz.prog 5 #[.slice A1 n1 c1, .slice A2 n2 c2] w fun e w' => e = .returned (.bool false) ∧ w = w' := by
  have h1 : decide ((1048576 : Int) < n1) = false := decide_eq_false (by omega)
  have h2 : decide ((1048576 : Int) - n1 < n2) = false := decide_eq_false (by omega)
  go_enter Tryz.func5, Tryz.ntmps5
  go_wp2
  go_ret
  exact ⟨rfl, rfl⟩
theorem big_true (A1 A2 : Option Addr) (n1 c1 n2 c2 : Nat) (w : World) (h : ¬ n1 + n2 ≤ 1048576) (hn1 : n1 ≤ 140737488351232) (hn2 : n2 ≤ 140737488351232) : Calls Tryz.prog 5 #[.slice A1 n1 c1, .slice A2 n2 c2] w fun e w' => e = .returned (.bool true) ∧ w = w' := by
  by_cases h0 : n1 ≤ 1048576
  · have h1 : decide ((1048576 : Int) < n1) = false := decide_eq_false (by omega)
    have h2 : decide ((1048576 : Int) - n1 < n2) = true := decide_eq_true (by omega)
    go_enter Tryz.func5, Tryz.ntmps5
    go_wp2
    go_ret
    exact ⟨rfl, rfl⟩
  · have h1 : decide ((1048576 : Int) < n1) = true := decide_eq_true (by omega)
    go_enter Tryz.func5, Tryz.ntmps5
    go_wp2
    go_ret
    exact ⟨rfl, rfl⟩
set_option maxHeartbeats 2000000 in
theorem yMoves_same (A1 A2 : Option Addr) (c1 c2 B1 B2 : Nat) (ms : List (Int × Int)) (w : World) (h1 : MvAt w B1 A1 ms) (h2 : MvAt w B2 A2 ms) :
    Calls Tryz.prog 21 #[.slice A1 ms.length c1, .slice A2 ms.length c2] w fun e w' => e = .returned (.bool true) ∧ ∃ n, w' = w.drewN n := by
  have hl := h1.1
  go_enter Tryz.func21, Tryz.ntmps21
  go_wp2
  go_loopw [13] (fun i wr => ∃ k : Nat, k ≤ ms.length ∧ i = .int .i64 k ∧ ∃ n, wr = w.drewN n) (fun i _ => ms.length - (intOf i).toNat)
  case atStart => exact ⟨0, by omega, rfl, 0, rfl⟩
  case round =>
    obtain ⟨k, hk, rfl, nn, rfl⟩ := hrel
    by_cases hlt : k < ms.length
    · have hj : ms[k]? = some (ms[k].1, ms[k].2) := by simp [hlt]
      obtain ⟨ad, rfl, hb1, x1, x2⟩ := h1.2 k _ _ hj
      obtain ⟨ae, rfl, hb2, y1, y2⟩ := h2.2 k _ _ hj
      go_wp2
      go_quiet (fail)
      go_wp2
      go_roundw
      case rel => exact ⟨k + 1, by omega, by go_num, _, rfl⟩
      case measure => simp [intOf]; omega
    · go_wp2
      go_ret
      exact ⟨rfl, _, rfl⟩
theorem contains_take {ms : List (Int × Int)} {k : Nat} (h : k < ms.length) (m : Int × Int) : (ms.take (k + 1)).contains m = ((ms.take k).contains m || (m == ms[k])) := by
  rw [List.take_succ_eq_append_getElem h]
  simp only [List.contains_eq_any_beq, List.any_append, List.any_cons, List.any_nil, Bool.or_false]
set_option maxHeartbeats 2000000 in
theorem yIn_any (A : Option Addr) (c B : Nat) (ms : List (Int × Int)) (f t : Int) (w : World) (h1 : MvAt w B A ms) (hB : B ≤ w.heap.size) :
    Calls Tryz.prog 28 #[.slice A ms.length c, .agg #[.int .i64 f, .int .i64 t]] w fun e w' => e = .returned (.bool (ms.contains (f, t))) ∧ Below w.heap.size w w' := by
  have hl := h1.1
  go_enter Tryz.func28, Tryz.ntmps28
  go_wp2
  go_loopw [9] (fun i wr => ∃ k : Nat, k ≤ ms.length ∧ i = .int .i64 k ∧ Hid ((ms.take k).contains (f, t) = false) ∧ Below (w.heap.size + 1) (w.alloc (.cells #[.int .i64 f, .int .i64 t] 38)) wr) (fun i _ => ms.length - (intOf i).toNat)
  case atStart => exact ⟨0, by omega, rfl, Lib.hid (by simp), Below.refl _ _⟩
  case round =>
    obtain ⟨k, hk, rfl, hno, hb⟩ := hrel
    have hbb : Below w.heap.size w wr := ((Below.refl w.heap.size w).alloc (Nat.le_refl _) _).trans (hb.mono (by omega))
    have hh := h1.keep (w' := wr) fun i hi => hbb.block i (by omega)
    have hsz := hb.size
    simp at hsz
    by_cases hlt : k < ms.length
    · have hj : ms[k]? = some (ms[k].1, ms[k].2) := by simp [hlt]
      obtain ⟨ad, rfl, hb1, x1, x2⟩ := hh.2 k _ _ hj
      have b1 : wr.cell? ⟨w.heap.size, 0, none⟩ = some (.int .i64 f) := (hb.cell (p := ⟨w.heap.size, 0, none⟩) (by simp)).trans (by simp)
      have b2 : wr.cell? ⟨w.heap.size, 1, none⟩ = some (.int .i64 t) := (hb.cell (p := ⟨w.heap.size, 1, none⟩) (by simp)).trans (by simp)
      have hne : w.heap.size < wr.heap.size := by omega
      have hne2 : ¬ w.heap.size = wr.heap.size := by omega
      by_cases hq : ms[k] = (f, t)
      · have hq1 : ms[k].1 = f := by rw [hq]
        have hq2 : ms[k].2 = t := by rw [hq]
        have hyes : ms.contains (f, t) = true := by rw [List.contains_iff_mem, ← hq]; exact List.getElem_mem hlt
        rw [hq1] at x1
        rw [hq2] at x2
        clear hq hj hq1 hq2 hh h1
        go_wp2
        go_ret
        exact ⟨by rw [hyes]; rfl, (hbb.alloc (by omega) _)⟩
      · have hqb : ((f, t) == ms[k]) = false := beq_eq_false_iff_ne.2 fun e => hq e.symm
        have hno2 := hno.out
        have Hn : Hid ((ms.take (k + 1)).contains (f, t) = false) := Lib.hid (by rw [contains_take hlt, hno2, hqb]; rfl)
        by_cases hq1 : ms[k].1 = f
        · have hq2 : ms[k].2 ≠ t := fun e => hq (by rw [← hq1, ← e])
          have e2 : (ms[k].2 == t) = false := beqF hq2
          rw [hq1] at x1
          clear hq hj hq1 hq2 hh h1 hqb hno hno2
          go_wp2
          go_roundw
          case rel => exact ⟨k + 1, by omega, by go_num, Hn, hb.alloc (by omega) _⟩
          case measure => simp [intOf]; omega
        · have e1 : (ms[k].1 == f) = false := beqF hq1
          clear hq hj hq1 hh h1 hqb hno hno2
          go_wp2
          go_roundw
          case rel => exact ⟨k + 1, by omega, by go_num, Hn, hb.alloc (by omega) _⟩
          case measure => simp [intOf]; omega
    · have hk2 : k = ms.length := by omega
      have hno2 := hno.out
      rw [hk2, List.take_length] at hno2
      go_wp2
      go_ret
      exact ⟨by rw [hno2]; rfl, hbb⟩
set_option maxHeartbeats 2000000 in
/-- Rows whose moves begin at ever later cells. -/
theorem yOrder_yes (A : Option Addr) (c B : Nat) (ms : List (Int × Int)) (w : World) (h1 : MvAt w B A ms) (ho : ∀ (j : Nat) (a b : Int × Int), ms[j]? = some a → ms[j + 1]? = some b → a.1 < b.1) :
    Calls Tryz.prog 24 #[.slice A ms.length c] w fun e w' => e = .returned (.bool true) ∧ ∃ n, w' = w.drewN n := by
  have hl := h1.1
  go_enter Tryz.func24, Tryz.ntmps24
  go_wp2
  go_loopw [3] (fun i wr => ∃ k : Nat, i = .int .i64 (k + 1) ∧ (k = 0 ∨ k + 1 ≤ ms.length) ∧ ∃ n, wr = w.drewN n) (fun i _ => ms.length + 1 - (intOf i).toNat)
  case atStart => exact ⟨0, rfl, .inl rfl, 0, rfl⟩
  case round =>
    obtain ⟨k, rfl, hk, nn, rfl⟩ := hrel
    by_cases hlt : k + 1 < ms.length
    · have hlt1 : k < ms.length := by omega
      have hj : ms[k]? = some (ms[k].1, ms[k].2) := by simp [hlt1]
      have hj2 : ms[k + 1]? = some (ms[k + 1].1, ms[k + 1].2) := by simp [hlt]
      have hord : ms[k].1 < ms[k + 1].1 := ho k _ _ hj hj2
      obtain ⟨ad, rfl, hb1, x1, x2⟩ := h1.2 k _ _ hj
      obtain ⟨ae, hae, hb2, y1, y2⟩ := h1.2 (k + 1) _ _ hj2
      injection hae with hae
      subst hae
      have g1 : decide (ms[k + 1].1 < ms[k].1) = false := decide_eq_false (by omega)
      have g2 : (ms[k].1 == ms[k + 1].1) = false := beqF (by omega)
      have hlt2 : (k : Int) + 1 < ms.length := by omega
      have hlt3 : decide ((k : Int) + 1 < ms.length) = true := decide_eq_true hlt2
      have hk3 : (k : Int) < ms.length := by omega
      clear hord hj hj2 hk h1 ho
      go_wp2
      go_quiet (fail)
      go_wp2
      go_roundw
      case rel => exact ⟨k + 1, by go_num, .inr (by omega), _, rfl⟩
      case measure => simp [intOf]; omega
    · have hlt2 : ¬ (k : Int) + 1 < ms.length := by omega
      have hlt3 : decide ((k : Int) + 1 < ms.length) = false := decide_eq_false hlt2
      have hk2 : k ≤ 10000000 := by omega
      clear h1 ho
      go_wp2
      go_ret
      exact ⟨rfl, _, rfl⟩
end Go.Proofs.YtemicglkmnjibaaGreatDoor
