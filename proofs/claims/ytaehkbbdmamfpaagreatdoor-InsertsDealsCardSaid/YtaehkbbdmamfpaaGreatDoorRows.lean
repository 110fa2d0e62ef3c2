/-
  NARROWER THAN 'FOR EVERY INPUT', by the rows' own cells (each row's printed sentence says how): InsertsDeals: laid · InsertsGoal: laid · InsertsKept: laid · InsertsBegin: laid.
  DERIVED. THE GIVEN ROWS OF THIS SEAT. 4 by the template 'for every input the law returns true; each argument reads behind the call as it read before'; 0 by the template 'total and deterministic' (their statements: YtaehkbbdmamfpaaGreatDoorTotals.lean).
  GIVEN WITH THE SEED: the statements are not yours to turn. If you find one false, say at which input.
  Laid BY PROGRAM, IN A SANDBOX (cutbox-rows.mjs): the forced cells as the released guide's own fill.sh prints them over the translation d67f26ee19bd7af2… (all of the seat's roots in one cut). By AI agents, Wed Nov 11 2026. No macro, syntax, notation, axiom, sorry.
-/
import Derived.Test.YtaehkbbdmamfpaaGreatDoorChecked
import GoSem.Claim
import GoSem.ClaimJoined
import GoSem.ClaimMapViews
import Derived.JoinedTies
import Derived.KernelRfl
namespace Go.Proofs.YtaehkbbdmamfpaaGreatDoor
/- THE CELL 'sum', in the pinned program and in every row, IS THE sha256 OF THE DUMP (.gsa) THAT YtaehkbbdmamfpaaGreatDoorProg.lean LOADS. Nothing in Lean hashes anything: it is a label: what it is worth is what the hold of that sum in a sandbox is worth. -/
noncomputable def Tryz.pinned : Pinned := { name := "ytaehkbbdmamfpaagreatdoor", sum := "d67f26ee19bd7af249b5200a7a66f36427872174446f2ecdf338bfdeff382cc4", checked := Tryz.checked }
namespace Rows
def none {H : Type} : Left H := { results := [], args := [] }

/- WHAT THE LISTED PACKAGE-LEVEL VARIABLES READ AS WHEN THE CALL BEGINS. Each datum BY PROGRAM (the guide's laid-datum.mjs) off the statement by which the dump's own 'gosem.cut.vars' lays the variable. In a bare row this is a premise. The card (YtaehkbbdmamfpaaGreatDoorCards.lean) ties it to the program's text. -/
def laid_errors_errorType {H : Type} : DataW H := .iface "internal/reflectlite.rtype" (.agg [.ptr (.lit (.string [101, 114, 114, 111, 114]))])

/-- 'galleylaw12.InsertsDeals': WHATEVER THE INPUT: true; the input reads as it did. -/
def insertsDealsSpec : ChangeSpec := { name := "insertsDeals", fn := fun _ => fun
  | [d1, d2, d3, d4, d5] => { results := [.lit (.bool true)], args := [d1, d2, d3, d4, d5] }
  | _ => none }
def insertsDealsRow : OpenClaim := { program := "ytaehkbbdmamfpaagreatdoor", sum := "d67f26ee19bd7af249b5200a7a66f36427872174446f2ecdf338bfdeff382cc4", func := "galley/galleylaw12.InsertsDeals", spec := "insertsDeals", inPlace := ["internal/reflectlite.ValueOf", "(internal/reflectlite.Value).Type", "(internal/reflectlite.Value).IsNil", "internal/reflectlite.TypeOf", "(internal/reflectlite.Value).Elem", "(internal/reflectlite.Value).Set"], unfollowed := true, recurses := true, named := ["errors.errorType"], apart := false, laid := [("errors.errorType", laid_errors_errorType)] }
def InsertsDealsSaid : Prop := insertsDealsRow.holds Tryz.pinned (OpenSpec.ofChange insertsDealsSpec)

/-- ITS FALSE NEIGHBOUR: 'it returns false'. Refute it at one input. -/
def insertsDealsWrong : ChangeSpec := { name := "insertsDeals", fn := fun _ => fun
  | [d1, d2, d3, d4, d5] => { results := [.lit (.bool false)], args := [d1, d2, d3, d4, d5] }
  | _ => none }
def InsertsDealsWrongFalsely : Prop := insertsDealsRow.holds Tryz.pinned (OpenSpec.ofChange insertsDealsWrong)

/-- 'galleylaw12.InsertsGoal': WHATEVER THE INPUT: true; the input reads as it did. -/
def insertsGoalSpec : ChangeSpec := { name := "insertsGoal", fn := fun _ => fun
  | [d1, d2, d3, d4] => { results := [.lit (.bool true)], args := [d1, d2, d3, d4] }
  | _ => none }
def insertsGoalRow : OpenClaim := { program := "ytaehkbbdmamfpaagreatdoor", sum := "d67f26ee19bd7af249b5200a7a66f36427872174446f2ecdf338bfdeff382cc4", func := "galley/galleylaw12.InsertsGoal", spec := "insertsGoal", inPlace := ["internal/reflectlite.ValueOf", "(internal/reflectlite.Value).Type", "(internal/reflectlite.Value).IsNil", "internal/reflectlite.TypeOf", "(internal/reflectlite.Value).Elem", "(internal/reflectlite.Value).Set"], unfollowed := true, recurses := true, named := ["errors.errorType"], apart := false, laid := [("errors.errorType", laid_errors_errorType)] }
def InsertsGoalSaid : Prop := insertsGoalRow.holds Tryz.pinned (OpenSpec.ofChange insertsGoalSpec)

/-- ITS FALSE NEIGHBOUR: 'it returns false'. Refute it at one input. -/
def insertsGoalWrong : ChangeSpec := { name := "insertsGoal", fn := fun _ => fun
  | [d1, d2, d3, d4] => { results := [.lit (.bool false)], args := [d1, d2, d3, d4] }
  | _ => none }
def InsertsGoalWrongFalsely : Prop := insertsGoalRow.holds Tryz.pinned (OpenSpec.ofChange insertsGoalWrong)

/-- 'galleylaw12.InsertsKept': WHATEVER THE INPUT: true; the input reads as it did. -/
def insertsKeptSpec : ChangeSpec := { name := "insertsKept", fn := fun _ => fun
  | [d1, d2, d3, d4, d5] => { results := [.lit (.bool true)], args := [d1, d2, d3, d4, d5] }
  | _ => none }
def insertsKeptRow : OpenClaim := { program := "ytaehkbbdmamfpaagreatdoor", sum := "d67f26ee19bd7af249b5200a7a66f36427872174446f2ecdf338bfdeff382cc4", func := "galley/galleylaw12.InsertsKept", spec := "insertsKept", inPlace := ["internal/reflectlite.ValueOf", "(internal/reflectlite.Value).Type", "(internal/reflectlite.Value).IsNil", "internal/reflectlite.TypeOf", "(internal/reflectlite.Value).Elem", "(internal/reflectlite.Value).Set"], unfollowed := true, recurses := true, named := ["errors.errorType"], apart := false, laid := [("errors.errorType", laid_errors_errorType)] }
def InsertsKeptSaid : Prop := insertsKeptRow.holds Tryz.pinned (OpenSpec.ofChange insertsKeptSpec)

/-- ITS FALSE NEIGHBOUR: 'it returns false'. Refute it at one input. -/
def insertsKeptWrong : ChangeSpec := { name := "insertsKept", fn := fun _ => fun
  | [d1, d2, d3, d4, d5] => { results := [.lit (.bool false)], args := [d1, d2, d3, d4, d5] }
  | _ => none }
def InsertsKeptWrongFalsely : Prop := insertsKeptRow.holds Tryz.pinned (OpenSpec.ofChange insertsKeptWrong)

/-- 'galleylaw12.InsertsBegin': WHATEVER THE INPUT: true; the input reads as it did. -/
def insertsBeginSpec : ChangeSpec := { name := "insertsBegin", fn := fun _ => fun
  | [d1, d2, d3, d4, d5] => { results := [.lit (.bool true)], args := [d1, d2, d3, d4, d5] }
  | _ => none }
def insertsBeginRow : OpenClaim := { program := "ytaehkbbdmamfpaagreatdoor", sum := "d67f26ee19bd7af249b5200a7a66f36427872174446f2ecdf338bfdeff382cc4", func := "galley/galleylaw12.InsertsBegin", spec := "insertsBegin", inPlace := ["internal/reflectlite.ValueOf", "(internal/reflectlite.Value).Type", "(internal/reflectlite.Value).IsNil", "internal/reflectlite.TypeOf", "(internal/reflectlite.Value).Elem", "(internal/reflectlite.Value).Set"], unfollowed := true, recurses := true, named := ["errors.errorType"], apart := false, laid := [("errors.errorType", laid_errors_errorType)] }
def InsertsBeginSaid : Prop := insertsBeginRow.holds Tryz.pinned (OpenSpec.ofChange insertsBeginSpec)

/-- ITS FALSE NEIGHBOUR: 'it returns false'. Refute it at one input. -/
def insertsBeginWrong : ChangeSpec := { name := "insertsBegin", fn := fun _ => fun
  | [d1, d2, d3, d4, d5] => { results := [.lit (.bool false)], args := [d1, d2, d3, d4, d5] }
  | _ => none }
def InsertsBeginWrongFalsely : Prop := insertsBeginRow.holds Tryz.pinned (OpenSpec.ofChange insertsBeginWrong)

/- THE SECOND FORM. 'bulk': how many values and letters a reading holds, each counted each time it is reached (what is shared counts as often as it is met; a slice's spare places count too). A statement '..UptoSaid' is the law's where the arguments, and the package variables that the reading takes, are together of bulk at most 1048576: NARROWER than '..Said'. Prove '..Said' where nothing that the law and all that it calls make is longer than what came in: it says more and counts as full. Else prove '..UptoSaid'. A law counts once. -/
mutual
def uptoBulk {H : Type} : DataW H → Nat
  | .lit (.string bytes) => bytes.length + 1
  | .lit _ => 1
  | .nil => 1
  | .ptr d => uptoBulk d + 1
  | .slice elems spare => uptoBulkAll elems + uptoBulkAll spare + 1
  | .agg parts => uptoBulkAll parts + 1
  | .iface _ d => uptoBulk d + 1
  | .map entries => uptoBulkEntries entries + 1
  | .held _ => 1
def uptoBulkAll {H : Type} : List (DataW H) → Nat
  | [] => 0
  | d :: r => uptoBulk d + uptoBulkAll r
def uptoBulkEntries {H : Type} : List (Lit × DataW H) → Nat
  | [] => 0
  | x :: r => uptoBulkEntry x + uptoBulkEntries r
def uptoBulkEntry {H : Type} : Lit × DataW H → Nat
  | (.string bytes, d) => bytes.length + uptoBulk d + 1
  | (_, d) => uptoBulk d + 1
 end
def uptoSmall : (H : Type) → List (DataW H) → Bool := fun _ ds => decide (uptoBulkAll ds ≤ 1048576)
def OpenSpec.upto (s : _root_.Go.ChangeSpec) : _root_.Go.OpenSpec := { _root_.Go.OpenSpec.ofChange s with cond := some uptoSmall }

/-- 'galleylaw12.InsertsDeals', WHERE WHAT IT READS IS OF BULK AT MOST 1048576: true; the input reads as it did. -/
def insertsDealsUptoRow : OpenClaim := { program := "ytaehkbbdmamfpaagreatdoor", sum := "d67f26ee19bd7af249b5200a7a66f36427872174446f2ecdf338bfdeff382cc4", func := "galley/galleylaw12.InsertsDeals", spec := "insertsDeals", inPlace := ["internal/reflectlite.ValueOf", "(internal/reflectlite.Value).Type", "(internal/reflectlite.Value).IsNil", "internal/reflectlite.TypeOf", "(internal/reflectlite.Value).Elem", "(internal/reflectlite.Value).Set"], unfollowed := true, recurses := true, named := ["errors.errorType"], apart := false, laid := [("errors.errorType", laid_errors_errorType)], narrowed := true }
def InsertsDealsUptoSaid : Prop := insertsDealsUptoRow.holds Tryz.pinned (OpenSpec.upto insertsDealsSpec)

/-- 'galleylaw12.InsertsGoal', WHERE WHAT IT READS IS OF BULK AT MOST 1048576: true; the input reads as it did. -/
def insertsGoalUptoRow : OpenClaim := { program := "ytaehkbbdmamfpaagreatdoor", sum := "d67f26ee19bd7af249b5200a7a66f36427872174446f2ecdf338bfdeff382cc4", func := "galley/galleylaw12.InsertsGoal", spec := "insertsGoal", inPlace := ["internal/reflectlite.ValueOf", "(internal/reflectlite.Value).Type", "(internal/reflectlite.Value).IsNil", "internal/reflectlite.TypeOf", "(internal/reflectlite.Value).Elem", "(internal/reflectlite.Value).Set"], unfollowed := true, recurses := true, named := ["errors.errorType"], apart := false, laid := [("errors.errorType", laid_errors_errorType)], narrowed := true }
def InsertsGoalUptoSaid : Prop := insertsGoalUptoRow.holds Tryz.pinned (OpenSpec.upto insertsGoalSpec)

/-- 'galleylaw12.InsertsKept', WHERE WHAT IT READS IS OF BULK AT MOST 1048576: true; the input reads as it did. -/
def insertsKeptUptoRow : OpenClaim := { program := "ytaehkbbdmamfpaagreatdoor", sum := "d67f26ee19bd7af249b5200a7a66f36427872174446f2ecdf338bfdeff382cc4", func := "galley/galleylaw12.InsertsKept", spec := "insertsKept", inPlace := ["internal/reflectlite.ValueOf", "(internal/reflectlite.Value).Type", "(internal/reflectlite.Value).IsNil", "internal/reflectlite.TypeOf", "(internal/reflectlite.Value).Elem", "(internal/reflectlite.Value).Set"], unfollowed := true, recurses := true, named := ["errors.errorType"], apart := false, laid := [("errors.errorType", laid_errors_errorType)], narrowed := true }
def InsertsKeptUptoSaid : Prop := insertsKeptUptoRow.holds Tryz.pinned (OpenSpec.upto insertsKeptSpec)

/-- 'galleylaw12.InsertsBegin', WHERE WHAT IT READS IS OF BULK AT MOST 1048576: true; the input reads as it did. -/
def insertsBeginUptoRow : OpenClaim := { program := "ytaehkbbdmamfpaagreatdoor", sum := "d67f26ee19bd7af249b5200a7a66f36427872174446f2ecdf338bfdeff382cc4", func := "galley/galleylaw12.InsertsBegin", spec := "insertsBegin", inPlace := ["internal/reflectlite.ValueOf", "(internal/reflectlite.Value).Type", "(internal/reflectlite.Value).IsNil", "internal/reflectlite.TypeOf", "(internal/reflectlite.Value).Elem", "(internal/reflectlite.Value).Set"], unfollowed := true, recurses := true, named := ["errors.errorType"], apart := false, laid := [("errors.errorType", laid_errors_errorType)], narrowed := true }
def InsertsBeginUptoSaid : Prop := insertsBeginUptoRow.holds Tryz.pinned (OpenSpec.upto insertsBeginSpec)

end Rows
end Go.Proofs.YtaehkbbdmamfpaaGreatDoor
