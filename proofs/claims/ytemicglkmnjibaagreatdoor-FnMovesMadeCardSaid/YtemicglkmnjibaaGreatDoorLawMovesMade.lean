/-
  The law on moves made, as its row asks for it; no condition but the row's own.
-/
import Derived.Test.YtemicglkmnjibaaGreatDoorLawB
import Derived.Test.YtemicglkmnjibaaGreatDoorRowWords
namespace Go.Proofs.YtemicglkmnjibaaGreatDoor
open Go.RowKit
theorem code_of_row {w : World} {a : Option Addr} {len cap : Nat} {z : List Int} (h : IsRow .u8 w a len cap z) (hl : len * 1 ≤ 140737488351232) : Code w w.heap.size a len := by
  refine ⟨by omega, fun j hj => ?_⟩
  rcases h with ⟨_, h0, _⟩ | ⟨x, rfl, h1, _, h2, hc, hw⟩
  · omega
  · have hj2 : j < z.length := by omega
    have hcell := hc j hj2
    have hmem : z.getD j 0 ∈ z := by
      rw [List.getD_eq_getElem?_getD, List.getElem?_eq_getElem hj2]; exact List.getElem_mem hj2
    have hwf : 0 ≤ z.getD j 0 ∧ z.getD j 0 ≤ 255 := by
      have := hw _ hmem
      rw [Lit.wf, Bool.and_eq_true, decide_eq_true_iff, decide_eq_true_iff] at this
      exact this
    refine ⟨x, (z.getD j 0).toNat, rfl, ?_, by omega, by rw [hcell]; congr 2; omega⟩
    have := World.block_lt_of_cell? _ _ hcell
    rwa [block_add] at this
theorem FnMovesMade_walk (a0 : Option Addr) (len0 cap0 : Nat) (z0 : List Int) (a1 : Option Addr) (len1 cap1 : Nat) (z1 : List Int) (w : World)
    (w0 : IsRow .u8 w a0 len0 cap0 z0) (y0 : len0 * 1 ≤ 140737488351232) (w1 : IsRow .u8 w a1 len1 cap1 z1) (y1 : len1 * 1 ≤ 140737488351232) :
    Calls Tryz.prog 3 #[.slice a0 len0 cap0, .slice a1 len1 cap1] w fun e w' => e = .returned (.bool true) ∧ Below w.heap.size w w' :=
  FnMovesMade_any a0 a1 len0 cap0 len1 cap1 w (code_of_row w0 y0) (code_of_row w1 y1)
end Go.Proofs.YtemicglkmnjibaaGreatDoor
