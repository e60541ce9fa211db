/-
  DERIVED. GIVEN WITH THE SEED: THE CARDS: each row of YtemicglkmnjibaaGreatDoorRows.lean that lists a variable, with what it lists TIED to the program's text (the seventh form; the later family's looks); each row that meets fmt, with fmt's text TOLD by the authors' own Lean function (tested against real Go, not proved from fmt's source: count such statements apart). THE CARD IS WHAT COUNTS. Prove the row's statement (the work); the ties are given (YtemicglkmnjibaaGreatDoorTie.lean); close each card by the builder's one call (the guide's Derived/Test/ToyasCard.lean, 'card_holds'). Laid BY PROGRAM, IN A SANDBOX (cutbox-door.mjs). By AI agents, Wed Nov 11 2026. No macro, syntax, notation, axiom, sorry.
-/
import Derived.Test.YtemicglkmnjibaaGreatDoorRows
import GoSem.ClaimSeven
namespace Go.Proofs.YtemicglkmnjibaaGreatDoor
namespace Rows

/-- THE TIED CARD OF 'laws.FnMovesMade'. -/
def fnMovesMadeCard : Claim7 := { stood := { row := fnMovesMadeRow, standIns := [], harness := (true, "aad26fcdfcde70089b31e4bca4f46af378fa625c4dbacba893b17fba279d7f0f"), looks := false }, kinds := [], alts := [], laidByText := true, laidKinds := [.data, .pinned], laidTests := true, laidLooks := .later }
def FnMovesMadeCardSaid : Prop := Claim7.holds Tryz.pinned (.plain (OpenSpec.ofChange fnMovesMadeSpec)) fnMovesMadeCard

/-- THE TIED CARD OF 'laws.FnLinesRanked'. -/
def fnLinesRankedCard : Claim7 := { stood := { row := fnLinesRankedRow, standIns := [], harness := (true, "aad26fcdfcde70089b31e4bca4f46af378fa625c4dbacba893b17fba279d7f0f"), looks := false }, kinds := [], alts := [], laidByText := true, laidKinds := [.data, .pinned], laidTests := true, laidLooks := .later }
def FnLinesRankedCardSaid : Prop := Claim7.holds Tryz.pinned (.plain (OpenSpec.ofChange fnLinesRankedSpec)) fnLinesRankedCard

/-- THE SECOND FORM's CARD OF 'laws.FnMovesMade'. -/
def fnMovesMadeUptoCard : Claim7 := { stood := { row := fnMovesMadeUptoRow, standIns := [], harness := (true, "aad26fcdfcde70089b31e4bca4f46af378fa625c4dbacba893b17fba279d7f0f"), looks := false }, kinds := [], alts := [], laidByText := true, laidKinds := [.data, .pinned], laidTests := true, laidLooks := .later }
def FnMovesMadeUptoCardSaid : Prop := Claim7.holds Tryz.pinned (.plain (OpenSpec.upto fnMovesMadeSpec)) fnMovesMadeUptoCard

/-- THE SECOND FORM's CARD OF 'laws.FnLinesRanked'. -/
def fnLinesRankedUptoCard : Claim7 := { stood := { row := fnLinesRankedUptoRow, standIns := [], harness := (true, "aad26fcdfcde70089b31e4bca4f46af378fa625c4dbacba893b17fba279d7f0f"), looks := false }, kinds := [], alts := [], laidByText := true, laidKinds := [.data, .pinned], laidTests := true, laidLooks := .later }
def FnLinesRankedUptoCardSaid : Prop := Claim7.holds Tryz.pinned (.plain (OpenSpec.upto fnLinesRankedSpec)) fnLinesRankedUptoCard
end Rows
end Go.Proofs.YtemicglkmnjibaaGreatDoor
