/-
  No cell of these rows narrows 'for every input' (looked for: loops, veiled, ifaces, maps, wideKeys, modest, calm, conditions, laid).
  DERIVED. THE GIVEN ROWS OF THIS SEAT. 3 by the template 'for every input the law returns true; each argument reads behind the call as it read before'; 0 by the template 'total and deterministic' (their statements: YtiijpbfkchokaaaTotals.lean).
  GIVEN WITH THE SEED: the statements are not yours to turn. If you find one false, say at which input.
  Laid BY PROGRAM, IN A SANDBOX (cutbox-rows.mjs): the forced cells as the released guide's own fill.sh prints them over the translation a8b4f2aee417d621… (all of the seat's roots in one cut). By AI agents, Wed Nov 11 2026. No macro, syntax, notation, axiom, sorry.
-/
import Derived.Test.YtiijpbfkchokaaaChecked
import GoSem.Claim
import GoSem.ClaimJoined
import GoSem.ClaimMapViews
import Derived.JoinedTies
import Derived.KernelRfl
namespace Go.Proofs.Ytiijpbfkchokaaa
/- THE CELL 'sum', in the pinned program and in every row, IS THE sha256 OF THE DUMP (.gsa) THAT YtiijpbfkchokaaaProg.lean LOADS. Nothing in Lean hashes anything: it is a label: what it is worth is what the hold of that sum in a sandbox is worth. -/
noncomputable def Try.pinned : Pinned := { name := "ytiijpbfkchokaaa", sum := "a8b4f2aee417d62134616a9d3ba046ad8fb1f252f78cc4167f289f7e7ddfef79", checked := Try.checked }
namespace Rows
def none {H : Type} : Left H := { results := [], args := [] }

/-- 'galleylaw09.BreaksTolerant': WHATEVER THE INPUT: true; the input reads as it did. -/
def breaksTolerantSpec : ChangeSpec := { name := "breaksTolerant", fn := fun _ => fun
  | [d1, d2, d3, d4, d5] => { results := [.lit (.bool true)], args := [d1, d2, d3, d4, d5] }
  | _ => none }
def breaksTolerantRow : OpenClaim := { program := "ytiijpbfkchokaaa", sum := "a8b4f2aee417d62134616a9d3ba046ad8fb1f252f78cc4167f289f7e7ddfef79", func := "galley/galleylaw09.BreaksTolerant", spec := "breaksTolerant", unfollowed := true, recurses := true, plainKeys := false, apart := false }
def BreaksTolerantSaid : Prop := breaksTolerantRow.holds Try.pinned (OpenSpec.ofChange breaksTolerantSpec)

/-- ITS FALSE NEIGHBOUR: 'it returns false'. Refute it at one input. -/
def breaksTolerantWrong : ChangeSpec := { name := "breaksTolerant", fn := fun _ => fun
  | [d1, d2, d3, d4, d5] => { results := [.lit (.bool false)], args := [d1, d2, d3, d4, d5] }
  | _ => none }
def BreaksTolerantWrongFalsely : Prop := breaksTolerantRow.holds Try.pinned (OpenSpec.ofChange breaksTolerantWrong)

/-- 'galleylaw09.BreaksBest': WHATEVER THE INPUT: true; the input reads as it did. -/
def breaksBestSpec : ChangeSpec := { name := "breaksBest", fn := fun _ => fun
  | [d1, d2, d3, d4, d5] => { results := [.lit (.bool true)], args := [d1, d2, d3, d4, d5] }
  | _ => none }
def breaksBestRow : OpenClaim := { program := "ytiijpbfkchokaaa", sum := "a8b4f2aee417d62134616a9d3ba046ad8fb1f252f78cc4167f289f7e7ddfef79", func := "galley/galleylaw09.BreaksBest", spec := "breaksBest", unfollowed := true, recurses := true, plainKeys := false, apart := false }
def BreaksBestSaid : Prop := breaksBestRow.holds Try.pinned (OpenSpec.ofChange breaksBestSpec)

/-- ITS FALSE NEIGHBOUR: 'it returns false'. Refute it at one input. -/
def breaksBestWrong : ChangeSpec := { name := "breaksBest", fn := fun _ => fun
  | [d1, d2, d3, d4, d5] => { results := [.lit (.bool false)], args := [d1, d2, d3, d4, d5] }
  | _ => none }
def BreaksBestWrongFalsely : Prop := breaksBestRow.holds Try.pinned (OpenSpec.ofChange breaksBestWrong)

/-- 'galleylaw09.BreaksLoose': WHATEVER THE INPUT: true; the input reads as it did. -/
def breaksLooseSpec : ChangeSpec := { name := "breaksLoose", fn := fun _ => fun
  | [d1, d2, d3, d4, d5] => { results := [.lit (.bool true)], args := [d1, d2, d3, d4, d5] }
  | _ => none }
def breaksLooseRow : OpenClaim := { program := "ytiijpbfkchokaaa", sum := "a8b4f2aee417d62134616a9d3ba046ad8fb1f252f78cc4167f289f7e7ddfef79", func := "galley/galleylaw09.BreaksLoose", spec := "breaksLoose", unfollowed := true, recurses := true, plainKeys := false, apart := false }
def BreaksLooseSaid : Prop := breaksLooseRow.holds Try.pinned (OpenSpec.ofChange breaksLooseSpec)

/-- ITS FALSE NEIGHBOUR: 'it returns false'. Refute it at one input. -/
def breaksLooseWrong : ChangeSpec := { name := "breaksLoose", fn := fun _ => fun
  | [d1, d2, d3, d4, d5] => { results := [.lit (.bool false)], args := [d1, d2, d3, d4, d5] }
  | _ => none }
def BreaksLooseWrongFalsely : Prop := breaksLooseRow.holds Try.pinned (OpenSpec.ofChange breaksLooseWrong)

/- THE SECOND FORM. 'bulk': how many values and letters a reading holds, each counted each time it is reached (what is shared counts as often as it is met; a slice's spare places count too). A statement '..UptoSaid' is the law's where the arguments, and the package variables that the reading takes, are together of bulk at most 1048576: NARROWER than '..Said'. Prove '..Said' where nothing that the law and all that it calls make is longer than what came in: it says more and counts as full. Else prove '..UptoSaid'. A law counts once. -/
mutual
def uptoBulk {H : Type} : DataW H → Nat
  | .lit (.string bytes) => bytes.length + 1
  | .lit _ => 1
  | .nil => 1
  | .ptr d => uptoBulk d + 1
  | .slice elems spare => uptoBulkAll elems + uptoBulkAll spare + 1
  | .agg parts => uptoBulkAll parts + 1
  | .iface _ d => uptoBulk d + 1
  | .map entries => uptoBulkEntries entries + 1
  | .held _ => 1
def uptoBulkAll {H : Type} : List (DataW H) → Nat
  | [] => 0
  | d :: r => uptoBulk d + uptoBulkAll r
def uptoBulkEntries {H : Type} : List (Lit × DataW H) → Nat
  | [] => 0
  | x :: r => uptoBulkEntry x + uptoBulkEntries r
def uptoBulkEntry {H : Type} : Lit × DataW H → Nat
  | (.string bytes, d) => bytes.length + uptoBulk d + 1
  | (_, d) => uptoBulk d + 1
 end
def uptoSmall : (H : Type) → List (DataW H) → Bool := fun _ ds => decide (uptoBulkAll ds ≤ 1048576)
def OpenSpec.upto (s : _root_.Go.ChangeSpec) : _root_.Go.OpenSpec := { _root_.Go.OpenSpec.ofChange s with cond := some uptoSmall }

/-- 'galleylaw09.BreaksTolerant', WHERE WHAT IT READS IS OF BULK AT MOST 1048576: true; the input reads as it did. -/
def breaksTolerantUptoRow : OpenClaim := { program := "ytiijpbfkchokaaa", sum := "a8b4f2aee417d62134616a9d3ba046ad8fb1f252f78cc4167f289f7e7ddfef79", func := "galley/galleylaw09.BreaksTolerant", spec := "breaksTolerant", unfollowed := true, recurses := true, plainKeys := false, apart := false, narrowed := true }
def BreaksTolerantUptoSaid : Prop := breaksTolerantUptoRow.holds Try.pinned (OpenSpec.upto breaksTolerantSpec)

/-- 'galleylaw09.BreaksBest', WHERE WHAT IT READS IS OF BULK AT MOST 1048576: true; the input reads as it did. -/
def breaksBestUptoRow : OpenClaim := { program := "ytiijpbfkchokaaa", sum := "a8b4f2aee417d62134616a9d3ba046ad8fb1f252f78cc4167f289f7e7ddfef79", func := "galley/galleylaw09.BreaksBest", spec := "breaksBest", unfollowed := true, recurses := true, plainKeys := false, apart := false, narrowed := true }
def BreaksBestUptoSaid : Prop := breaksBestUptoRow.holds Try.pinned (OpenSpec.upto breaksBestSpec)

/-- 'galleylaw09.BreaksLoose', WHERE WHAT IT READS IS OF BULK AT MOST 1048576: true; the input reads as it did. -/
def breaksLooseUptoRow : OpenClaim := { program := "ytiijpbfkchokaaa", sum := "a8b4f2aee417d62134616a9d3ba046ad8fb1f252f78cc4167f289f7e7ddfef79", func := "galley/galleylaw09.BreaksLoose", spec := "breaksLoose", unfollowed := true, recurses := true, plainKeys := false, apart := false, narrowed := true }
def BreaksLooseUptoSaid : Prop := breaksLooseUptoRow.holds Try.pinned (OpenSpec.upto breaksLooseSpec)

end Rows
end Go.Proofs.Ytiijpbfkchokaaa
