/-
  Words for memory and strings that the walks of this claim use; no condition.
-/
import Derived.WalkKit
import Derived.Below
import Derived.Deep.Draws
import Derived.Deep.OwnRows
import Derived.OwnWalk
import Derived.Laws.OwnMore
import Derived.Deep.QuietTactic
namespace Go.Proofs.YtemicglkmnjibaaGreatDoor
open Go.RowKit

/-- The letters of a string, as natural numbers; and back. -/
def bL (s : ByteArray) : List Nat := s.data.toList.map UInt8.toNat
def bB (l : List Nat) : ByteArray := ⟨(l.map UInt8.ofNat).toArray⟩
theorem bL_length (s : ByteArray) : (bL s).length = s.size := by
  simp only [bL, List.length_map]
  rfl
theorem bB_size (l : List Nat) : (bB l).size = l.length := by
  show (l.map UInt8.ofNat).toArray.size = _
  simp
theorem bB_bL (s : ByteArray) : bB (bL s) = s := by
  obtain ⟨⟨d⟩⟩ := s
  simp [bB, bL, Function.comp_def]
theorem bL_bB {l : List Nat} (h : ∀ x ∈ l, x < 256) : bL (bB l) = l := by
  simp only [bL, bB, List.map_map]
  conv => rhs; rw [← List.map_id l]
  refine List.map_congr_left fun x hx => ?_
  have := h x hx
  simp [Nat.mod_eq_of_lt this]
theorem bL_lt (s : ByteArray) : ∀ x ∈ bL s, x < 256 := by
  intro x hx
  obtain ⟨u, _, rfl⟩ := List.mem_map.1 hx
  exact u.toNat_lt
theorem bL_inj {s t : ByteArray} (h : bL s = bL t) : s = t := by rw [← bB_bL s, h, bB_bL]
theorem bB_inj {l m : List Nat} (hl : ∀ x ∈ l, x < 256) (hm : ∀ x ∈ m, x < 256) (h : bB l = bB m) : l = m := by rw [← bL_bB hl, h, bL_bB hm]

/-- The letter at a place, 0 beyond. -/
def chN (l : List Nat) (k : Nat) : Nat := l.getD k 0
theorem chN_eq (s : ByteArray) {k : Nat} (h : k < s.size) : (s[k]'h).toNat = chN (bL s) k := by
  have h2 : k < s.data.toList.length := h
  simp [chN, bL, List.getD_eq_getElem?_getD, List.getElem?_map, List.getElem?_eq_getElem h2]
  rfl
theorem chN_of_lt {l : List Nat} {k : Nat} (h : k < l.length) : chN l k = l[k] := by
  simp [chN, List.getD_eq_getElem?_getD, List.getElem?_eq_getElem h]
theorem chN_ge {l : List Nat} {k : Nat} (h : l.length ≤ k) : chN l k = 0 := by
  simp [chN, List.getD_eq_getElem?_getD, List.getElem?_eq_none h]
theorem chN_lt (s : ByteArray) (k : Nat) : chN (bL s) k < 256 := by
  rcases Nat.lt_or_ge k (bL s).length with h | h
  · rw [chN_of_lt h]; exact bL_lt s _ (List.getElem_mem h)
  · rw [chN_ge h]; omega

/-- Moves as cells of memory. -/
def mvCells (ms : List (Int × Int)) : List Value := ms.flatMap fun m => [.int .i64 m.1, .int .i64 m.2]
theorem mvCells_length (ms : List (Int × Int)) : (mvCells ms).length = ms.length * 2 := by
  unfold mvCells
  induction ms with
  | nil => rfl
  | cons m ms ih => simp only [List.flatMap_cons, List.length_append, ih, List.length_cons, List.length_nil]; omega
theorem mvCells_append (a b : List (Int × Int)) : mvCells (a ++ b) = mvCells a ++ mvCells b := by simp [mvCells]
theorem mvCells_get (ms : List (Int × Int)) (k : Nat) (h : k < ms.length) : (mvCells ms)[k * 2]? = some (.int .i64 (ms[k]).1) ∧ (mvCells ms)[k * 2 + 1]? = some (.int .i64 (ms[k]).2) := by
  induction ms generalizing k with
  | nil => simp at h
  | cons m ms ih =>
    cases k with
    | zero => simp [mvCells]
    | succ k =>
      have hk := ih k (by simpa using h)
      have e : mvCells (m :: ms) = .int .i64 m.1 :: .int .i64 m.2 :: mvCells ms := by simp [mvCells]
      rw [e]
      constructor
      · have : (k + 1) * 2 = k * 2 + 1 + 1 := by omega
        rw [this, List.getElem?_cons_succ, List.getElem?_cons_succ]; exact hk.1
      · have : (k + 1) * 2 + 1 = (k * 2 + 1) + 1 + 1 := by omega
        rw [this, List.getElem?_cons_succ, List.getElem?_cons_succ]; exact hk.2
theorem ret_bool {a b : Bool} (h : a = b) : Ending.returned (.bool a) = .returned (.bool b) := by rw [h]
theorem ret_int {k : IntKind} {a b : Int} (h : a = b) : Ending.returned (.int k a) = .returned (.int k b) := by rw [h]
theorem ret_ib {k : IntKind} {a b : Int} {c d : Bool} (h : a = b) (h' : c = d) : Ending.returned (.tuple #[.int k a, .bool c]) = .returned (.tuple #[.int k b, .bool d]) := by rw [h, h']
theorem ret_str {a b : ByteArray} (h : a = b) : Ending.returned (.string a) = .returned (.string b) := by rw [h]

theorem pw_below_drewN {B : Nat} {w W : World} (h : Below B w W) (n : Nat) : Below B w (W.drewN n) := ⟨h.os, h.tape, h.output, h.size, h.block⟩
theorem ownsRow_drewN {w : World} {base : Nat} {e : TypeId} {size : Nat} {v : Value} {n : Nat} {xs : List Value} (h : w.ownsRow base e size v n xs) (k : Nat) : (w.drewN k).ownsRow base e size v n xs := h
theorem ownsRow_base {w : World} {b b' : Nat} {e : TypeId} {size : Nat} {v : Value} {n : Nat} {xs : List Value} (h : w.ownsRow b e size v n xs) (hb : b' ≤ b) : w.ownsRow b' e size v n xs := by
  refine ⟨h.1, ?_⟩
  rcases h.2 with hn | ⟨g, cap, cur, hv, hg, r⟩
  · exact .inl hn
  · exact .inr ⟨g, cap, cur, hv, by omega, r⟩
theorem own_slice {w : World} {base n : Nat} {e : TypeId} {size : Nat} {v : Value} {xs : List Value} (h : w.ownsRow base e size v n xs) : ∃ A c, v = .slice A n c := by
  rcases h.2 with ⟨rfl, rfl⟩ | ⟨g, cap, cur, rfl, _⟩
  · exact ⟨none, 0, rfl⟩
  · exact ⟨_, cap, rfl⟩
theorem pw_cell_below {w w1 : World} (h : Below w.heap.size w w1) {a : Addr} {v : Value} (hc : w.cell? a = some v) : w1.cell? a = some v := (h.cell (World.block_lt_of_cell? w a hc)).trans hc
theorem own_below {w w1 : World} {base : Nat} {e : TypeId} {size n : Nat} {v : Value} {xs : List Value} (h : w.ownsRow base e size v n xs) (hb : Below w.heap.size w w1) : w1.ownsRow base e size v n xs :=
  h.kept (row := none) ⟨hb.os, hb.tape, hb.output, hb.size, fun i hi _ => hb.block i hi⟩ (by cases v.ownBlock <;> simp)
theorem new_cells {w : World} {T : TypeId} (cs : List Value) : ∀ j u, cs[j]? = some u → (w.alloc (.cells cs.toArray T)).cell? ((⟨w.heap.size, 0, none⟩ : Addr).add j) = some u := by
  intro j u h
  have hadd : (⟨w.heap.size, 0, none⟩ : Addr).add j = ⟨w.heap.size, j, none⟩ := by unfold Addr.add; split <;> simp_all
  rw [hadd, cell_of_row _ _ j cs.toArray T (0, 0) (heap_alloc_new w _)]
  simpa using h
theorem below_own {w w1 w2 : World} {v : Value} {e : TypeId} {size n : Nat} {xs : List Value} (hb : Below w.heap.size w w1) (hown : w1.ownsRow w.heap.size e size v n xs) (hg : w1.grownBy w2 v.ownBlock) : Below w.heap.size w w2 :=
  hb.grown hg hb.size fun k hk => (hown.lt k hk).1
theorem bel_trans {w w1 w2 : World} (h1 : Below w.heap.size w w1) (h2 : Below w1.heap.size w1 w2) : Below w.heap.size w w2 := h1.trans (h2.mono h1.size)
theorem bel_box {w w1 : World} {o : Obj} (h : Below (w.alloc o).heap.size (w.alloc o) w1) : Below w.heap.size w w1 := bel_trans ((Below.refl _ _).alloc (Nat.le_refl _) _) h
theorem box2 {w w1 : World} {a b : Value} {T : TypeId} (h : Below (w.alloc (.cells #[a, b] T)).heap.size (w.alloc (.cells #[a, b] T)) w1) : w1.cell? ⟨w.heap.size, 0, none⟩ = some a ∧ w1.cell? ⟨w.heap.size, 1, none⟩ = some b :=
  ⟨(h.cell (p := ⟨w.heap.size, 0, none⟩) (by simp)).trans (by simp), (h.cell (p := ⟨w.heap.size, 1, none⟩) (by simp)).trans (by simp)⟩
/-- Contracts of functions that only compute, inside a region whose order is open. -/
theorem quiet_eq {P : Program} {f : FuncId} {args : Array Value} {w : World} {n : Nat} {v : Value} (h : ∀ W : World, Calls P f args W fun e w' => e = .returned v ∧ W = w') :
    Calls P f args (w.drewN n) fun e w'' => e = .returned v ∧ ∃ m, w'' = w.drewN m := (h _).mono fun _ _ ⟨he, hm⟩ => ⟨he, n, hm.symm⟩
theorem quiet_eq_add {P : Program} {f : FuncId} {args : Array Value} {w : World} {a n : Nat} {v : Value} (h : ∀ W : World, Calls P f args W fun e w' => e = .returned v ∧ W = w') :
    Calls P f args (w.drewN (a + n)) fun e w'' => e = .returned v ∧ ∃ m, w'' = w.drewN (a + m) := (h _).mono fun _ _ ⟨he, hm⟩ => ⟨he, n, hm.symm⟩
theorem beqF {a b : Int} (h : a ≠ b) : (a == b) = false := beq_eq_false_iff_ne.2 h
theorem beqT {a b : Int} (h : a = b) : (a == b) = true := beq_iff_eq.2 h
theorem beqFN {a b : Nat} (h : a ≠ b) : (a == b) = false := beq_eq_false_iff_ne.2 h
theorem beqTN {a b : Nat} (h : a = b) : (a == b) = true := beq_iff_eq.2 h
end Go.Proofs.YtemicglkmnjibaaGreatDoor
