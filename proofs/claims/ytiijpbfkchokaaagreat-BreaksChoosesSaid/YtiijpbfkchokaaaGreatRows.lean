/-
  No cell of these rows narrows 'for every input' (looked for: loops, veiled, ifaces, maps, wideKeys, modest, calm, conditions, laid).
  DERIVED. THE GIVEN ROWS OF THIS SEAT. 4 by the template 'for every input the law returns true; each argument reads behind the call as it read before'; 0 by the template 'total and deterministic' (their statements: YtiijpbfkchokaaaGreatTotals.lean).
  GIVEN WITH THE SEED: the statements are not yours to turn. If you find one false, say at which input.
  Laid BY PROGRAM, IN A SANDBOX (cutbox-rows.mjs): the forced cells as the released guide's own fill.sh prints them over the translation 3061b250398aff8d… (all of the seat's roots in one cut). By AI agents, Wed Nov 11 2026. No macro, syntax, notation, axiom, sorry.
-/
import Derived.Test.YtiijpbfkchokaaaGreatChecked
import GoSem.Claim
import GoSem.ClaimJoined
import GoSem.ClaimMapViews
import Derived.JoinedTies
import Derived.KernelRfl
namespace Go.Proofs.YtiijpbfkchokaaaGreat
/- THE CELL 'sum', in the pinned program and in every row, IS THE sha256 OF THE DUMP (.gsa) THAT YtiijpbfkchokaaaGreatProg.lean LOADS. Nothing in Lean hashes anything: it is a label: what it is worth is what the hold of that sum in a sandbox is worth. -/
noncomputable def Tryz.pinned : Pinned := { name := "ytiijpbfkchokaaagreat", sum := "3061b250398aff8db54d40d16a85e07dfe66465f444305c907bb08005559f357", checked := Tryz.checked }
namespace Rows
def none {H : Type} : Left H := { results := [], args := [] }

/-- 'galleylaw09.BreaksChooses': WHATEVER THE INPUT: true; the input reads as it did. -/
def breaksChoosesSpec : ChangeSpec := { name := "breaksChooses", fn := fun _ => fun
  | [d1, d2, d3, d4, d5] => { results := [.lit (.bool true)], args := [d1, d2, d3, d4, d5] }
  | _ => none }
def breaksChoosesRow : OpenClaim := { program := "ytiijpbfkchokaaagreat", sum := "3061b250398aff8db54d40d16a85e07dfe66465f444305c907bb08005559f357", func := "galley/galleylaw09.BreaksChooses", spec := "breaksChooses", unfollowed := true, recurses := true, plainKeys := false, apart := false }
def BreaksChoosesSaid : Prop := breaksChoosesRow.holds Tryz.pinned (OpenSpec.ofChange breaksChoosesSpec)

/-- ITS FALSE NEIGHBOUR: 'it returns false'. Refute it at one input. -/
def breaksChoosesWrong : ChangeSpec := { name := "breaksChooses", fn := fun _ => fun
  | [d1, d2, d3, d4, d5] => { results := [.lit (.bool false)], args := [d1, d2, d3, d4, d5] }
  | _ => none }
def BreaksChoosesWrongFalsely : Prop := breaksChoosesRow.holds Tryz.pinned (OpenSpec.ofChange breaksChoosesWrong)

/-- 'galleylaw09.BreaksCosts': WHATEVER THE INPUT: true; the input reads as it did. -/
def breaksCostsSpec : ChangeSpec := { name := "breaksCosts", fn := fun _ => fun
  | [d1, d2, d3, d4, d5] => { results := [.lit (.bool true)], args := [d1, d2, d3, d4, d5] }
  | _ => none }
def breaksCostsRow : OpenClaim := { program := "ytiijpbfkchokaaagreat", sum := "3061b250398aff8db54d40d16a85e07dfe66465f444305c907bb08005559f357", func := "galley/galleylaw09.BreaksCosts", spec := "breaksCosts", unfollowed := true, recurses := true, plainKeys := false, apart := false }
def BreaksCostsSaid : Prop := breaksCostsRow.holds Tryz.pinned (OpenSpec.ofChange breaksCostsSpec)

/-- ITS FALSE NEIGHBOUR: 'it returns false'. Refute it at one input. -/
def breaksCostsWrong : ChangeSpec := { name := "breaksCosts", fn := fun _ => fun
  | [d1, d2, d3, d4, d5] => { results := [.lit (.bool false)], args := [d1, d2, d3, d4, d5] }
  | _ => none }
def BreaksCostsWrongFalsely : Prop := breaksCostsRow.holds Tryz.pinned (OpenSpec.ofChange breaksCostsWrong)

/-- 'galleylaw09.BreaksLegal': WHATEVER THE INPUT: true; the input reads as it did. -/
def breaksLegalSpec : ChangeSpec := { name := "breaksLegal", fn := fun _ => fun
  | [d1, d2, d3] => { results := [.lit (.bool true)], args := [d1, d2, d3] }
  | _ => none }
def breaksLegalRow : OpenClaim := { program := "ytiijpbfkchokaaagreat", sum := "3061b250398aff8db54d40d16a85e07dfe66465f444305c907bb08005559f357", func := "galley/galleylaw09.BreaksLegal", spec := "breaksLegal", unfollowed := true, recurses := true, plainKeys := false, apart := false }
def BreaksLegalSaid : Prop := breaksLegalRow.holds Tryz.pinned (OpenSpec.ofChange breaksLegalSpec)

/-- ITS FALSE NEIGHBOUR: 'it returns false'. Refute it at one input. -/
def breaksLegalWrong : ChangeSpec := { name := "breaksLegal", fn := fun _ => fun
  | [d1, d2, d3] => { results := [.lit (.bool false)], args := [d1, d2, d3] }
  | _ => none }
def BreaksLegalWrongFalsely : Prop := breaksLegalRow.holds Tryz.pinned (OpenSpec.ofChange breaksLegalWrong)

/-- 'galleylaw09.BreaksLines': WHATEVER THE INPUT: true; the input reads as it did. -/
def breaksLinesSpec : ChangeSpec := { name := "breaksLines", fn := fun _ => fun
  | [d1, d2, d3, d4] => { results := [.lit (.bool true)], args := [d1, d2, d3, d4] }
  | _ => none }
def breaksLinesRow : OpenClaim := { program := "ytiijpbfkchokaaagreat", sum := "3061b250398aff8db54d40d16a85e07dfe66465f444305c907bb08005559f357", func := "galley/galleylaw09.BreaksLines", spec := "breaksLines", unfollowed := true, recurses := true, plainKeys := false, apart := false }
def BreaksLinesSaid : Prop := breaksLinesRow.holds Tryz.pinned (OpenSpec.ofChange breaksLinesSpec)

/-- ITS FALSE NEIGHBOUR: 'it returns false'. Refute it at one input. -/
def breaksLinesWrong : ChangeSpec := { name := "breaksLines", fn := fun _ => fun
  | [d1, d2, d3, d4] => { results := [.lit (.bool false)], args := [d1, d2, d3, d4] }
  | _ => none }
def BreaksLinesWrongFalsely : Prop := breaksLinesRow.holds Tryz.pinned (OpenSpec.ofChange breaksLinesWrong)

/- THE SECOND FORM. 'bulk': how many values and letters a reading holds, each counted each time it is reached (what is shared counts as often as it is met; a slice's spare places count too). A statement '..UptoSaid' is the law's where the arguments, and the package variables that the reading takes, are together of bulk at most 1048576: NARROWER than '..Said'. Prove '..Said' where nothing that the law and all that it calls make is longer than what came in: it says more and counts as full. Else prove '..UptoSaid'. A law counts once. -/
mutual
def uptoBulk {H : Type} : DataW H → Nat
  | .lit (.string bytes) => bytes.length + 1
  | .lit _ => 1
  | .nil => 1
  | .ptr d => uptoBulk d + 1
  | .slice elems spare => uptoBulkAll elems + uptoBulkAll spare + 1
  | .agg parts => uptoBulkAll parts + 1
  | .iface _ d => uptoBulk d + 1
  | .map entries => uptoBulkEntries entries + 1
  | .held _ => 1
def uptoBulkAll {H : Type} : List (DataW H) → Nat
  | [] => 0
  | d :: r => uptoBulk d + uptoBulkAll r
def uptoBulkEntries {H : Type} : List (Lit × DataW H) → Nat
  | [] => 0
  | x :: r => uptoBulkEntry x + uptoBulkEntries r
def uptoBulkEntry {H : Type} : Lit × DataW H → Nat
  | (.string bytes, d) => bytes.length + uptoBulk d + 1
  | (_, d) => uptoBulk d + 1
 end
def uptoSmall : (H : Type) → List (DataW H) → Bool := fun _ ds => decide (uptoBulkAll ds ≤ 1048576)
def OpenSpec.upto (s : _root_.Go.ChangeSpec) : _root_.Go.OpenSpec := { _root_.Go.OpenSpec.ofChange s with cond := some uptoSmall }

/-- 'galleylaw09.BreaksChooses', WHERE WHAT IT READS IS OF BULK AT MOST 1048576: true; the input reads as it did. -/
def breaksChoosesUptoRow : OpenClaim := { program := "ytiijpbfkchokaaagreat", sum := "3061b250398aff8db54d40d16a85e07dfe66465f444305c907bb08005559f357", func := "galley/galleylaw09.BreaksChooses", spec := "breaksChooses", unfollowed := true, recurses := true, plainKeys := false, apart := false, narrowed := true }
def BreaksChoosesUptoSaid : Prop := breaksChoosesUptoRow.holds Tryz.pinned (OpenSpec.upto breaksChoosesSpec)

/-- 'galleylaw09.BreaksCosts', WHERE WHAT IT READS IS OF BULK AT MOST 1048576: true; the input reads as it did. -/
def breaksCostsUptoRow : OpenClaim := { program := "ytiijpbfkchokaaagreat", sum := "3061b250398aff8db54d40d16a85e07dfe66465f444305c907bb08005559f357", func := "galley/galleylaw09.BreaksCosts", spec := "breaksCosts", unfollowed := true, recurses := true, plainKeys := false, apart := false, narrowed := true }
def BreaksCostsUptoSaid : Prop := breaksCostsUptoRow.holds Tryz.pinned (OpenSpec.upto breaksCostsSpec)

/-- 'galleylaw09.BreaksLegal', WHERE WHAT IT READS IS OF BULK AT MOST 1048576: true; the input reads as it did. -/
def breaksLegalUptoRow : OpenClaim := { program := "ytiijpbfkchokaaagreat", sum := "3061b250398aff8db54d40d16a85e07dfe66465f444305c907bb08005559f357", func := "galley/galleylaw09.BreaksLegal", spec := "breaksLegal", unfollowed := true, recurses := true, plainKeys := false, apart := false, narrowed := true }
def BreaksLegalUptoSaid : Prop := breaksLegalUptoRow.holds Tryz.pinned (OpenSpec.upto breaksLegalSpec)

/-- 'galleylaw09.BreaksLines', WHERE WHAT IT READS IS OF BULK AT MOST 1048576: true; the input reads as it did. -/
def breaksLinesUptoRow : OpenClaim := { program := "ytiijpbfkchokaaagreat", sum := "3061b250398aff8db54d40d16a85e07dfe66465f444305c907bb08005559f357", func := "galley/galleylaw09.BreaksLines", spec := "breaksLines", unfollowed := true, recurses := true, plainKeys := false, apart := false, narrowed := true }
def BreaksLinesUptoSaid : Prop := breaksLinesUptoRow.holds Tryz.pinned (OpenSpec.upto breaksLinesSpec)

end Rows
end Go.Proofs.YtiijpbfkchokaaaGreat
