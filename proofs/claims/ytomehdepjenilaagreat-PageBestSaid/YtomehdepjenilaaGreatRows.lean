/-
  No cell of these rows narrows 'for every input' (looked for: loops, veiled, ifaces, maps, wideKeys, modest, calm, conditions, laid).
  DERIVED. THE GIVEN ROWS OF THIS SEAT. 6 by the template 'for every input the law returns true; each argument reads behind the call as it read before'; 0 by the template 'total and deterministic' (their statements: YtomehdepjenilaaGreatTotals.lean).
  GIVEN WITH THE SEED: the statements are not yours to turn. If you find one false, say at which input.
  Laid BY PROGRAM, IN A SANDBOX (cutbox-rows.mjs): the forced cells as the released guide's own fill.sh prints them over the translation c37a953387973a19… (all of the seat's roots in one cut). By AI agents, Wed Nov 11 2026. No macro, syntax, notation, axiom, sorry.
-/
import Derived.Test.YtomehdepjenilaaGreatChecked
import GoSem.Claim
import GoSem.ClaimJoined
import GoSem.ClaimMapViews
import Derived.JoinedTies
import Derived.KernelRfl
namespace Go.Proofs.YtomehdepjenilaaGreat
/- THE CELL 'sum', in the pinned program and in every row, IS THE sha256 OF THE DUMP (.gsa) THAT YtomehdepjenilaaGreatProg.lean LOADS. Nothing in Lean hashes anything: it is a label: what it is worth is what the hold of that sum in a sandbox is worth. -/
noncomputable def Tryz.pinned : Pinned := { name := "ytomehdepjenilaagreat", sum := "c37a953387973a19ba5f15141e4fc64c398b3225100bfc518d3ba72ca9495bcb", checked := Tryz.checked }
namespace Rows
def none {H : Type} : Left H := { results := [], args := [] }

/-- 'galleylaw13.PagePieces': WHATEVER THE INPUT: true; the input reads as it did. -/
def pagePiecesSpec : ChangeSpec := { name := "pagePieces", fn := fun _ => fun
  | [d1, d2] => { results := [.lit (.bool true)], args := [d1, d2] }
  | _ => none }
def pagePiecesRow : OpenClaim := { program := "ytomehdepjenilaagreat", sum := "c37a953387973a19ba5f15141e4fc64c398b3225100bfc518d3ba72ca9495bcb", func := "galley/galleylaw13.PagePieces", spec := "pagePieces", unfollowed := true, recurses := true, apart := false }
def PagePiecesSaid : Prop := pagePiecesRow.holds Tryz.pinned (OpenSpec.ofChange pagePiecesSpec)

/-- ITS FALSE NEIGHBOUR: 'it returns false'. Refute it at one input. -/
def pagePiecesWrong : ChangeSpec := { name := "pagePieces", fn := fun _ => fun
  | [d1, d2] => { results := [.lit (.bool false)], args := [d1, d2] }
  | _ => none }
def PagePiecesWrongFalsely : Prop := pagePiecesRow.holds Tryz.pinned (OpenSpec.ofChange pagePiecesWrong)

/-- 'galleylaw13.PageBest': WHATEVER THE INPUT: true; the input reads as it did. -/
def pageBestSpec : ChangeSpec := { name := "pageBest", fn := fun _ => fun
  | [d1, d2, d3] => { results := [.lit (.bool true)], args := [d1, d2, d3] }
  | _ => none }
def pageBestRow : OpenClaim := { program := "ytomehdepjenilaagreat", sum := "c37a953387973a19ba5f15141e4fc64c398b3225100bfc518d3ba72ca9495bcb", func := "galley/galleylaw13.PageBest", spec := "pageBest", unfollowed := true, recurses := true, apart := false }
def PageBestSaid : Prop := pageBestRow.holds Tryz.pinned (OpenSpec.ofChange pageBestSpec)

/-- ITS FALSE NEIGHBOUR: 'it returns false'. Refute it at one input. -/
def pageBestWrong : ChangeSpec := { name := "pageBest", fn := fun _ => fun
  | [d1, d2, d3] => { results := [.lit (.bool false)], args := [d1, d2, d3] }
  | _ => none }
def PageBestWrongFalsely : Prop := pageBestRow.holds Tryz.pinned (OpenSpec.ofChange pageBestWrong)

/-- 'galleylaw13.PageTops': WHATEVER THE INPUT: true; the input reads as it did. -/
def pageTopsSpec : ChangeSpec := { name := "pageTops", fn := fun _ => fun
  | [d1, d2] => { results := [.lit (.bool true)], args := [d1, d2] }
  | _ => none }
def pageTopsRow : OpenClaim := { program := "ytomehdepjenilaagreat", sum := "c37a953387973a19ba5f15141e4fc64c398b3225100bfc518d3ba72ca9495bcb", func := "galley/galleylaw13.PageTops", spec := "pageTops", unfollowed := true, recurses := true, apart := false }
def PageTopsSaid : Prop := pageTopsRow.holds Tryz.pinned (OpenSpec.ofChange pageTopsSpec)

/-- ITS FALSE NEIGHBOUR: 'it returns false'. Refute it at one input. -/
def pageTopsWrong : ChangeSpec := { name := "pageTops", fn := fun _ => fun
  | [d1, d2] => { results := [.lit (.bool false)], args := [d1, d2] }
  | _ => none }
def PageTopsWrongFalsely : Prop := pageTopsRow.holds Tryz.pinned (OpenSpec.ofChange pageTopsWrong)

/-- 'galleylaw13.PageNothingLost': WHATEVER THE INPUT: true; the input reads as it did. -/
def pageNothingLostSpec : ChangeSpec := { name := "pageNothingLost", fn := fun _ => fun
  | [d1, d2] => { results := [.lit (.bool true)], args := [d1, d2] }
  | _ => none }
def pageNothingLostRow : OpenClaim := { program := "ytomehdepjenilaagreat", sum := "c37a953387973a19ba5f15141e4fc64c398b3225100bfc518d3ba72ca9495bcb", func := "galley/galleylaw13.PageNothingLost", spec := "pageNothingLost", unfollowed := true, recurses := true, apart := false }
def PageNothingLostSaid : Prop := pageNothingLostRow.holds Tryz.pinned (OpenSpec.ofChange pageNothingLostSpec)

/-- ITS FALSE NEIGHBOUR: 'it returns false'. Refute it at one input. -/
def pageNothingLostWrong : ChangeSpec := { name := "pageNothingLost", fn := fun _ => fun
  | [d1, d2] => { results := [.lit (.bool false)], args := [d1, d2] }
  | _ => none }
def PageNothingLostWrongFalsely : Prop := pageNothingLostRow.holds Tryz.pinned (OpenSpec.ofChange pageNothingLostWrong)

/-- 'galleylaw13.PageNil': WHATEVER THE INPUT: true; the input reads as it did. -/
def pageNilSpec : ChangeSpec := { name := "pageNil", fn := fun _ => fun
  | [d] => { results := [.lit (.bool true)], args := [d] }
  | _ => none }
def pageNilRow : OpenClaim := { program := "ytomehdepjenilaagreat", sum := "c37a953387973a19ba5f15141e4fc64c398b3225100bfc518d3ba72ca9495bcb", func := "galley/galleylaw13.PageNil", spec := "pageNil", unfollowed := true, recurses := true, apart := false }
def PageNilSaid : Prop := pageNilRow.holds Tryz.pinned (OpenSpec.ofChange pageNilSpec)

/-- ITS FALSE NEIGHBOUR: 'it returns false'. Refute it at one input. -/
def pageNilWrong : ChangeSpec := { name := "pageNil", fn := fun _ => fun
  | [d] => { results := [.lit (.bool false)], args := [d] }
  | _ => none }
def PageNilWrongFalsely : Prop := pageNilRow.holds Tryz.pinned (OpenSpec.ofChange pageNilWrong)

/-- 'galleylaw13.PageFlushed': WHATEVER THE INPUT: true; the input reads as it did. -/
def pageFlushedSpec : ChangeSpec := { name := "pageFlushed", fn := fun _ => fun
  | [d1, d2] => { results := [.lit (.bool true)], args := [d1, d2] }
  | _ => none }
def pageFlushedRow : OpenClaim := { program := "ytomehdepjenilaagreat", sum := "c37a953387973a19ba5f15141e4fc64c398b3225100bfc518d3ba72ca9495bcb", func := "galley/galleylaw13.PageFlushed", spec := "pageFlushed", unfollowed := true, recurses := true, apart := false }
def PageFlushedSaid : Prop := pageFlushedRow.holds Tryz.pinned (OpenSpec.ofChange pageFlushedSpec)

/-- ITS FALSE NEIGHBOUR: 'it returns false'. Refute it at one input. -/
def pageFlushedWrong : ChangeSpec := { name := "pageFlushed", fn := fun _ => fun
  | [d1, d2] => { results := [.lit (.bool false)], args := [d1, d2] }
  | _ => none }
def PageFlushedWrongFalsely : Prop := pageFlushedRow.holds Tryz.pinned (OpenSpec.ofChange pageFlushedWrong)

/- THE SECOND FORM. 'bulk': how many values and letters a reading holds, each counted each time it is reached (what is shared counts as often as it is met; a slice's spare places count too). A statement '..UptoSaid' is the law's where the arguments, and the package variables that the reading takes, are together of bulk at most 1048576: NARROWER than '..Said'. Prove '..Said' where nothing that the law and all that it calls make is longer than what came in: it says more and counts as full. Else prove '..UptoSaid'. A law counts once. -/
mutual
def uptoBulk {H : Type} : DataW H → Nat
  | .lit (.string bytes) => bytes.length + 1
  | .lit _ => 1
  | .nil => 1
  | .ptr d => uptoBulk d + 1
  | .slice elems spare => uptoBulkAll elems + uptoBulkAll spare + 1
  | .agg parts => uptoBulkAll parts + 1
  | .iface _ d => uptoBulk d + 1
  | .map entries => uptoBulkEntries entries + 1
  | .held _ => 1
def uptoBulkAll {H : Type} : List (DataW H) → Nat
  | [] => 0
  | d :: r => uptoBulk d + uptoBulkAll r
def uptoBulkEntries {H : Type} : List (Lit × DataW H) → Nat
  | [] => 0
  | x :: r => uptoBulkEntry x + uptoBulkEntries r
def uptoBulkEntry {H : Type} : Lit × DataW H → Nat
  | (.string bytes, d) => bytes.length + uptoBulk d + 1
  | (_, d) => uptoBulk d + 1
 end
def uptoSmall : (H : Type) → List (DataW H) → Bool := fun _ ds => decide (uptoBulkAll ds ≤ 1048576)
def OpenSpec.upto (s : _root_.Go.ChangeSpec) : _root_.Go.OpenSpec := { _root_.Go.OpenSpec.ofChange s with cond := some uptoSmall }

/-- 'galleylaw13.PagePieces', WHERE WHAT IT READS IS OF BULK AT MOST 1048576: true; the input reads as it did. -/
def pagePiecesUptoRow : OpenClaim := { program := "ytomehdepjenilaagreat", sum := "c37a953387973a19ba5f15141e4fc64c398b3225100bfc518d3ba72ca9495bcb", func := "galley/galleylaw13.PagePieces", spec := "pagePieces", unfollowed := true, recurses := true, apart := false, narrowed := true }
def PagePiecesUptoSaid : Prop := pagePiecesUptoRow.holds Tryz.pinned (OpenSpec.upto pagePiecesSpec)

/-- 'galleylaw13.PageBest', WHERE WHAT IT READS IS OF BULK AT MOST 1048576: true; the input reads as it did. -/
def pageBestUptoRow : OpenClaim := { program := "ytomehdepjenilaagreat", sum := "c37a953387973a19ba5f15141e4fc64c398b3225100bfc518d3ba72ca9495bcb", func := "galley/galleylaw13.PageBest", spec := "pageBest", unfollowed := true, recurses := true, apart := false, narrowed := true }
def PageBestUptoSaid : Prop := pageBestUptoRow.holds Tryz.pinned (OpenSpec.upto pageBestSpec)

/-- 'galleylaw13.PageTops', WHERE WHAT IT READS IS OF BULK AT MOST 1048576: true; the input reads as it did. -/
def pageTopsUptoRow : OpenClaim := { program := "ytomehdepjenilaagreat", sum := "c37a953387973a19ba5f15141e4fc64c398b3225100bfc518d3ba72ca9495bcb", func := "galley/galleylaw13.PageTops", spec := "pageTops", unfollowed := true, recurses := true, apart := false, narrowed := true }
def PageTopsUptoSaid : Prop := pageTopsUptoRow.holds Tryz.pinned (OpenSpec.upto pageTopsSpec)

/-- 'galleylaw13.PageNothingLost', WHERE WHAT IT READS IS OF BULK AT MOST 1048576: true; the input reads as it did. -/
def pageNothingLostUptoRow : OpenClaim := { program := "ytomehdepjenilaagreat", sum := "c37a953387973a19ba5f15141e4fc64c398b3225100bfc518d3ba72ca9495bcb", func := "galley/galleylaw13.PageNothingLost", spec := "pageNothingLost", unfollowed := true, recurses := true, apart := false, narrowed := true }
def PageNothingLostUptoSaid : Prop := pageNothingLostUptoRow.holds Tryz.pinned (OpenSpec.upto pageNothingLostSpec)

/-- 'galleylaw13.PageNil', WHERE WHAT IT READS IS OF BULK AT MOST 1048576: true; the input reads as it did. -/
def pageNilUptoRow : OpenClaim := { program := "ytomehdepjenilaagreat", sum := "c37a953387973a19ba5f15141e4fc64c398b3225100bfc518d3ba72ca9495bcb", func := "galley/galleylaw13.PageNil", spec := "pageNil", unfollowed := true, recurses := true, apart := false, narrowed := true }
def PageNilUptoSaid : Prop := pageNilUptoRow.holds Tryz.pinned (OpenSpec.upto pageNilSpec)

/-- 'galleylaw13.PageFlushed', WHERE WHAT IT READS IS OF BULK AT MOST 1048576: true; the input reads as it did. -/
def pageFlushedUptoRow : OpenClaim := { program := "ytomehdepjenilaagreat", sum := "c37a953387973a19ba5f15141e4fc64c398b3225100bfc518d3ba72ca9495bcb", func := "galley/galleylaw13.PageFlushed", spec := "pageFlushed", unfollowed := true, recurses := true, apart := false, narrowed := true }
def PageFlushedUptoSaid : Prop := pageFlushedUptoRow.holds Tryz.pinned (OpenSpec.upto pageFlushedSpec)

end Rows
end Go.Proofs.YtomehdepjenilaaGreat
