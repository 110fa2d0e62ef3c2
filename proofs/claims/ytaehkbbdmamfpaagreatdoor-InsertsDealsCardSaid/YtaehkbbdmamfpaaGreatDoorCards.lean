/-
  DERIVED. GIVEN WITH THE SEED: THE CARDS: each row of YtaehkbbdmamfpaaGreatDoorRows.lean that lists a variable, with what it lists TIED to the program's text (the seventh form; the later family's looks); each row that meets fmt, with fmt's text TOLD by the authors' own Lean function (tested against real Go, not proved from fmt's source: count such statements apart). THE CARD IS WHAT COUNTS. Prove the row's statement (the work); the ties are given (YtaehkbbdmamfpaaGreatDoorTie.lean); close each card by the builder's one call (the guide's Derived/Test/ToyasCard.lean, 'card_holds'). Laid BY PROGRAM, IN A SANDBOX (cutbox-door.mjs). By AI agents, Wed Nov 11 2026. No macro, syntax, notation, axiom, sorry.
-/
import Derived.Test.YtaehkbbdmamfpaaGreatDoorRows
import GoSem.ClaimSeven
namespace Go.Proofs.YtaehkbbdmamfpaaGreatDoor
namespace Rows

/-- THE TIED CARD OF 'galleylaw12.InsertsDeals'. -/
def insertsDealsCard : Claim7 := { stood := { row := insertsDealsRow, standIns := [], harness := (true, "a728d7e45a95cd93a693e7c78c1ad1fa6e93a4cb3bfadbbfdfae23b4c196bbb6"), looks := true }, kinds := [], alts := [], laidByText := true, laidKinds := [.handle], laidTests := true, laidLooks := .later }
def InsertsDealsCardSaid : Prop := Claim7.holds Tryz.pinned (.plain (OpenSpec.ofChange insertsDealsSpec)) insertsDealsCard

/-- THE TIED CARD OF 'galleylaw12.InsertsGoal'. -/
def insertsGoalCard : Claim7 := { stood := { row := insertsGoalRow, standIns := [], harness := (true, "a728d7e45a95cd93a693e7c78c1ad1fa6e93a4cb3bfadbbfdfae23b4c196bbb6"), looks := true }, kinds := [], alts := [], laidByText := true, laidKinds := [.handle], laidTests := true, laidLooks := .later }
def InsertsGoalCardSaid : Prop := Claim7.holds Tryz.pinned (.plain (OpenSpec.ofChange insertsGoalSpec)) insertsGoalCard

/-- THE TIED CARD OF 'galleylaw12.InsertsKept'. -/
def insertsKeptCard : Claim7 := { stood := { row := insertsKeptRow, standIns := [], harness := (true, "a728d7e45a95cd93a693e7c78c1ad1fa6e93a4cb3bfadbbfdfae23b4c196bbb6"), looks := true }, kinds := [], alts := [], laidByText := true, laidKinds := [.handle], laidTests := true, laidLooks := .later }
def InsertsKeptCardSaid : Prop := Claim7.holds Tryz.pinned (.plain (OpenSpec.ofChange insertsKeptSpec)) insertsKeptCard

/-- THE TIED CARD OF 'galleylaw12.InsertsBegin'. -/
def insertsBeginCard : Claim7 := { stood := { row := insertsBeginRow, standIns := [], harness := (true, "a728d7e45a95cd93a693e7c78c1ad1fa6e93a4cb3bfadbbfdfae23b4c196bbb6"), looks := true }, kinds := [], alts := [], laidByText := true, laidKinds := [.handle], laidTests := true, laidLooks := .later }
def InsertsBeginCardSaid : Prop := Claim7.holds Tryz.pinned (.plain (OpenSpec.ofChange insertsBeginSpec)) insertsBeginCard

/-- THE SECOND FORM's CARD OF 'galleylaw12.InsertsDeals'. -/
def insertsDealsUptoCard : Claim7 := { stood := { row := insertsDealsUptoRow, standIns := [], harness := (true, "a728d7e45a95cd93a693e7c78c1ad1fa6e93a4cb3bfadbbfdfae23b4c196bbb6"), looks := true }, kinds := [], alts := [], laidByText := true, laidKinds := [.handle], laidTests := true, laidLooks := .later }
def InsertsDealsUptoCardSaid : Prop := Claim7.holds Tryz.pinned (.plain (OpenSpec.upto insertsDealsSpec)) insertsDealsUptoCard

/-- THE SECOND FORM's CARD OF 'galleylaw12.InsertsGoal'. -/
def insertsGoalUptoCard : Claim7 := { stood := { row := insertsGoalUptoRow, standIns := [], harness := (true, "a728d7e45a95cd93a693e7c78c1ad1fa6e93a4cb3bfadbbfdfae23b4c196bbb6"), looks := true }, kinds := [], alts := [], laidByText := true, laidKinds := [.handle], laidTests := true, laidLooks := .later }
def InsertsGoalUptoCardSaid : Prop := Claim7.holds Tryz.pinned (.plain (OpenSpec.upto insertsGoalSpec)) insertsGoalUptoCard

/-- THE SECOND FORM's CARD OF 'galleylaw12.InsertsKept'. -/
def insertsKeptUptoCard : Claim7 := { stood := { row := insertsKeptUptoRow, standIns := [], harness := (true, "a728d7e45a95cd93a693e7c78c1ad1fa6e93a4cb3bfadbbfdfae23b4c196bbb6"), looks := true }, kinds := [], alts := [], laidByText := true, laidKinds := [.handle], laidTests := true, laidLooks := .later }
def InsertsKeptUptoCardSaid : Prop := Claim7.holds Tryz.pinned (.plain (OpenSpec.upto insertsKeptSpec)) insertsKeptUptoCard

/-- THE SECOND FORM's CARD OF 'galleylaw12.InsertsBegin'. -/
def insertsBeginUptoCard : Claim7 := { stood := { row := insertsBeginUptoRow, standIns := [], harness := (true, "a728d7e45a95cd93a693e7c78c1ad1fa6e93a4cb3bfadbbfdfae23b4c196bbb6"), looks := true }, kinds := [], alts := [], laidByText := true, laidKinds := [.handle], laidTests := true, laidLooks := .later }
def InsertsBeginUptoCardSaid : Prop := Claim7.holds Tryz.pinned (.plain (OpenSpec.upto insertsBeginSpec)) insertsBeginUptoCard
end Rows
end Go.Proofs.YtaehkbbdmamfpaaGreatDoor
