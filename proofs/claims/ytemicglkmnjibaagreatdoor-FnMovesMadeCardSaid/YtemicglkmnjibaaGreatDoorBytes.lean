/-
  A row of bytes that the call itself made out of a string, read, written and turned back; no condition.
-/
import Derived.Test.YtemicglkmnjibaaGreatDoorWords
import Derived.Lib.ConvBytes
import Derived.Laws.BytesString
import Derived.Laws.Rows
namespace Go.Proofs.YtemicglkmnjibaaGreatDoor
open Go.RowKit
set_option linter.unusedVariables false
set_option linter.unusedSimpArgs false

/-- Block g holds the letters l, and perhaps more behind them. -/
def BB (w : World) (T g : Nat) (l : List Nat) : Prop :=
  ∃ cur : Array Value, w.heap[g]? = some (.cells cur T (cur.size, cur.size + 1)) ∧ l.length ≤ cur.size ∧ ∀ j, j < l.length → cur[j]? = some (.int .u8 (chN l j))
section
variable {w w' : World} {T g : Nat} {l : List Nat}
theorem BB.lt (h : BB w T g l) : g < w.heap.size := by
  obtain ⟨cur, hh, _⟩ := h
  exact (Array.getElem?_eq_some_iff.1 hh).1
theorem BB.cell (h : BB w T g l) {j : Nat} (hj : j < l.length) : w.cell? ⟨g, j, none⟩ = some (.int .u8 (chN l j)) := by
  obtain ⟨cur, hh, hn, hc⟩ := h
  rw [cell_of_row w g j cur T _ hh]
  exact hc j hj
theorem BB.free (h : BB w T g l) {j : Nat} (hj : j < l.length) : w.frozen? ⟨g, j, none⟩ = false := by
  obtain ⟨cur, hh, hn, hc⟩ := h
  simp [World.frozen?, hh]
  omega
theorem BB.same (h : BB w T g l) (he : w'.heap[g]? = w.heap[g]?) : BB w' T g l := by
  obtain ⟨cur, hh, r⟩ := h
  exact ⟨cur, he.trans hh, r⟩
theorem BB.drewN (h : BB w T g l) (n : Nat) : BB (w.drewN n) T g l := h
theorem BB.drew (h : BB w T g l) : BB w.drew T g l := h
theorem BB.alloc (h : BB w T g l) (o : Obj) : BB (w.alloc o) T g l := h.same (Below.heap_alloc w o g h.lt)
theorem BB.below {B : Nat} (h : BB w T g l) (hb : Below B w w') (hg : g < B) : BB w' T g l := h.same (hb.block g hg)
theorem BB.set (h : BB w T g l) {j : Nat} (hj : j < l.length) (c : Nat) : BB (w.setCell ⟨g, j, none⟩ (.int .u8 c)) T g (l.set j c) := by
  obtain ⟨cur, hh, hn, hc⟩ := h
  refine ⟨cur.setIfInBounds j (.int .u8 c), ?_, by simpa using hn, fun i hi => ?_⟩
  · simp [World.setCell, Array.getElem?_modify, hh]
  · rw [List.length_set] at hi
    rw [Array.getElem?_setIfInBounds]
    by_cases e : j = i
    · subst e
      rw [if_pos rfl, if_pos (by omega)]
      simp [chN, List.getD_eq_getElem?_getD, List.getElem?_set, hj]
    · rw [if_neg e, hc i hi]
      simp [chN, List.getD_eq_getElem?_getD, List.getElem?_set, e]
theorem BB.back {P : Program} {Ts Td e : TypeId} (hs : P.underlying Ts = some (.slice e)) (he : P.underlying e = some (.int .u8)) (hd : P.underlying Td = some .string)
    (h : BB w T g l) (c : Nat) : (convert Ts Td (.slice (some ⟨g, 0, none⟩) l.length c)).run P w = .ok (.string (bB l)) w := by
  rw [run_convert_bytes_string w Ts Td e _ _ _ hs he hd]
  have hl : (loadCells ⟨g, 0, none⟩ l.length).run P w = .ok ((l.map fun x : Nat => (x : Int)).map (Value.int .u8)).toArray w := by
    have := run_loadCells_list (P := P) (w := w) ⟨g, 0, none⟩ ((l.map fun x : Nat => (x : Int)).map (Value.int .u8)) (by
      intro j v hv
      have hadd : (⟨g, 0, none⟩ : Addr).add j = ⟨g, j, none⟩ := by unfold Addr.add; split <;> simp_all
      have hj : j < l.length := by simpa using (List.getElem?_eq_some_iff.1 hv).1
      rw [hadd, h.cell hj]
      rw [← hv]
      simp [chN_of_lt hj, hj])
    simpa using this
  rw [run_bytesToString w _ _ _ _ hl]
  congr 2
  have : ∀ (m : List Nat) (r : ByteArray), (m.map fun x : Nat => (x : Int)).foldl (fun r n => r.push (UInt8.ofNat n.toNat)) r = ⟨r.data ++ (m.map UInt8.ofNat).toArray⟩ := by
    intro m
    induction m with
    | nil => intro r; simp
    | cons x m ih => intro r; simp only [List.map_cons, List.foldl_cons, ih]; simp [ByteArray.push]
  rw [this]
  simp [bB]
end
theorem bytes_of {P : Program} (w : World) (src dst e : TypeId) (s : ByteArray) {u : TypeDesc}
    (hs : P.underlying src = some u) (hd : P.underlying dst = some (.slice e)) (he : P.underlying e = some (.int .u8)) :
    ∃ W c, (convert src dst (.string s)).run P w = .ok (.slice (some ⟨w.heap.size, 0, none⟩) s.size c) W ∧ BB W e w.heap.size (bL s) ∧ Below w.heap.size w W ∧ W.heap.size = w.heap.size + 1 := by
  refine ⟨_, _, Lib.run_convert_string_bytes w src dst e s hs hd he, ⟨_, Lib.bytesWorld_at_new w e s, ?_, ?_⟩, ⟨rfl, rfl, rfl, by rw [Lib.bytesWorld_size]; omega, fun i hi => Lib.bytesWorld_at_old w e s i hi⟩, Lib.bytesWorld_size w e s⟩
  · rw [bL_length]; simp [Lib.bytesCells]
  · intro j hj
    rw [bL_length] at hj
    have h2 : j < s.data.size := hj
    rw [← chN_eq s hj]
    simp [Lib.bytesCells, Array.getElem?_append]
    rw [if_pos hj, Array.getElem?_eq_getElem h2]
    rfl
end Go.Proofs.YtemicglkmnjibaaGreatDoor
