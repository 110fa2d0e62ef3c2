/-
  No cell of these rows narrows 'for every input' (looked for: loops, veiled, ifaces, maps, wideKeys, modest, calm, conditions, laid).
  DERIVED. THE GIVEN ROWS OF THIS SEAT. 10 by the template 'for every input the law returns true; each argument reads behind the call as it read before'; 0 by the template 'total and deterministic' (their statements: YtkkdopfdoommnaaTotals.lean).
  GIVEN WITH THE SEED: the statements are not yours to turn. If you find one false, say at which input.
  Laid BY PROGRAM, IN A SANDBOX (cutbox-rows.mjs): the forced cells as the released guide's own fill.sh prints them over the translation 6d75e02167d2ee5f… (all of the seat's roots in one cut). By AI agents, Wed Nov 11 2026. No macro, syntax, notation, axiom, sorry.
-/
import Derived.Test.YtkkdopfdoommnaaChecked
import GoSem.Claim
import GoSem.ClaimJoined
import GoSem.ClaimMapViews
import Derived.JoinedTies
import Derived.KernelRfl
namespace Go.Proofs.Ytkkdopfdoommnaa
/- THE CELL 'sum', in the pinned program and in every row, IS THE sha256 OF THE DUMP (.gsa) THAT YtkkdopfdoommnaaProg.lean LOADS. Nothing in Lean hashes anything: it is a label: what it is worth is what the hold of that sum in a sandbox is worth. -/
noncomputable def Try.pinned : Pinned := { name := "ytkkdopfdoommnaa", sum := "6d75e02167d2ee5fa89dc7a8b5ceda395526ab604d8d4da0f1391aa29bc52410", checked := Try.checked }
namespace Rows
def none {H : Type} : Left H := { results := [], args := [] }

/-- 'galleylaw11.VlistApart': WHATEVER THE INPUT: true; the input reads as it did. -/
def vlistApartSpec : ChangeSpec := { name := "vlistApart", fn := fun _ => fun
  | [d1, d2, d3, d4, d5] => { results := [.lit (.bool true)], args := [d1, d2, d3, d4, d5] }
  | _ => none }
def vlistApartRow : OpenClaim := { program := "ytkkdopfdoommnaa", sum := "6d75e02167d2ee5fa89dc7a8b5ceda395526ab604d8d4da0f1391aa29bc52410", func := "galley/galleylaw11.VlistApart", spec := "vlistApart", unfollowed := true, recurses := true, apart := false }
def VlistApartSaid : Prop := vlistApartRow.holds Try.pinned (OpenSpec.ofChange vlistApartSpec)

/-- ITS FALSE NEIGHBOUR: 'it returns false'. Refute it at one input. -/
def vlistApartWrong : ChangeSpec := { name := "vlistApart", fn := fun _ => fun
  | [d1, d2, d3, d4, d5] => { results := [.lit (.bool false)], args := [d1, d2, d3, d4, d5] }
  | _ => none }
def VlistApartWrongFalsely : Prop := vlistApartRow.holds Try.pinned (OpenSpec.ofChange vlistApartWrong)

/-- 'galleylaw20.MathlTables': WHATEVER THE INPUT: true; the input reads as it did. -/
def mathlTablesSpec : ChangeSpec := { name := "mathlTables", fn := fun _ => fun
  | [d1, d2, d3, d4, d5] => { results := [.lit (.bool true)], args := [d1, d2, d3, d4, d5] }
  | _ => none }
def mathlTablesRow : OpenClaim := { program := "ytkkdopfdoommnaa", sum := "6d75e02167d2ee5fa89dc7a8b5ceda395526ab604d8d4da0f1391aa29bc52410", func := "galley/galleylaw20.MathlTables", spec := "mathlTables", recurses := true, apart := false }
def MathlTablesSaid : Prop := mathlTablesRow.holds Try.pinned (OpenSpec.ofChange mathlTablesSpec)

/-- ITS FALSE NEIGHBOUR: 'it returns false'. Refute it at one input. -/
def mathlTablesWrong : ChangeSpec := { name := "mathlTables", fn := fun _ => fun
  | [d1, d2, d3, d4, d5] => { results := [.lit (.bool false)], args := [d1, d2, d3, d4, d5] }
  | _ => none }
def MathlTablesWrongFalsely : Prop := mathlTablesRow.holds Try.pinned (OpenSpec.ofChange mathlTablesWrong)

/-- 'galleylaw20.MathlBins': WHATEVER THE INPUT: true; the input reads as it did. -/
def mathlBinsSpec : ChangeSpec := { name := "mathlBins", fn := fun _ => fun
  | [d] => { results := [.lit (.bool true)], args := [d] }
  | _ => none }
def mathlBinsRow : OpenClaim := { program := "ytkkdopfdoommnaa", sum := "6d75e02167d2ee5fa89dc7a8b5ceda395526ab604d8d4da0f1391aa29bc52410", func := "galley/galleylaw20.MathlBins", spec := "mathlBins", recurses := true, apart := false }
def MathlBinsSaid : Prop := mathlBinsRow.holds Try.pinned (OpenSpec.ofChange mathlBinsSpec)

/-- ITS FALSE NEIGHBOUR: 'it returns false'. Refute it at one input. -/
def mathlBinsWrong : ChangeSpec := { name := "mathlBins", fn := fun _ => fun
  | [d] => { results := [.lit (.bool false)], args := [d] }
  | _ => none }
def MathlBinsWrongFalsely : Prop := mathlBinsRow.holds Try.pinned (OpenSpec.ofChange mathlBinsWrong)

/-- 'galleylaw20.MathlStyles': WHATEVER THE INPUT: true; the input reads as it did. -/
def mathlStylesSpec : ChangeSpec := { name := "mathlStyles", fn := fun _ => fun
  | [d1, d2] => { results := [.lit (.bool true)], args := [d1, d2] }
  | _ => none }
def mathlStylesRow : OpenClaim := { program := "ytkkdopfdoommnaa", sum := "6d75e02167d2ee5fa89dc7a8b5ceda395526ab604d8d4da0f1391aa29bc52410", func := "galley/galleylaw20.MathlStyles", spec := "mathlStyles", recurses := true, apart := false }
def MathlStylesSaid : Prop := mathlStylesRow.holds Try.pinned (OpenSpec.ofChange mathlStylesSpec)

/-- ITS FALSE NEIGHBOUR: 'it returns false'. Refute it at one input. -/
def mathlStylesWrong : ChangeSpec := { name := "mathlStyles", fn := fun _ => fun
  | [d1, d2] => { results := [.lit (.bool false)], args := [d1, d2] }
  | _ => none }
def MathlStylesWrongFalsely : Prop := mathlStylesRow.holds Try.pinned (OpenSpec.ofChange mathlStylesWrong)

/-- 'galleylaw20.MathlChecks': WHATEVER THE INPUT: true; the input reads as it did. -/
def mathlChecksSpec : ChangeSpec := { name := "mathlChecks", fn := fun _ => fun
  | [d] => { results := [.lit (.bool true)], args := [d] }
  | _ => none }
def mathlChecksRow : OpenClaim := { program := "ytkkdopfdoommnaa", sum := "6d75e02167d2ee5fa89dc7a8b5ceda395526ab604d8d4da0f1391aa29bc52410", func := "galley/galleylaw20.MathlChecks", spec := "mathlChecks", recurses := true, apart := false }
def MathlChecksSaid : Prop := mathlChecksRow.holds Try.pinned (OpenSpec.ofChange mathlChecksSpec)

/-- ITS FALSE NEIGHBOUR: 'it returns false'. Refute it at one input. -/
def mathlChecksWrong : ChangeSpec := { name := "mathlChecks", fn := fun _ => fun
  | [d] => { results := [.lit (.bool false)], args := [d] }
  | _ => none }
def MathlChecksWrongFalsely : Prop := mathlChecksRow.holds Try.pinned (OpenSpec.ofChange mathlChecksWrong)

/-- 'galleylaw11.VlistPrunes': WHATEVER THE INPUT: true; the input reads as it did. -/
def vlistPrunesSpec : ChangeSpec := { name := "vlistPrunes", fn := fun _ => fun
  | [d1, d2] => { results := [.lit (.bool true)], args := [d1, d2] }
  | _ => none }
def vlistPrunesRow : OpenClaim := { program := "ytkkdopfdoommnaa", sum := "6d75e02167d2ee5fa89dc7a8b5ceda395526ab604d8d4da0f1391aa29bc52410", func := "galley/galleylaw11.VlistPrunes", spec := "vlistPrunes", unfollowed := true, recurses := true, apart := false }
def VlistPrunesSaid : Prop := vlistPrunesRow.holds Try.pinned (OpenSpec.ofChange vlistPrunesSpec)

/-- ITS FALSE NEIGHBOUR: 'it returns false'. Refute it at one input. -/
def vlistPrunesWrong : ChangeSpec := { name := "vlistPrunes", fn := fun _ => fun
  | [d1, d2] => { results := [.lit (.bool false)], args := [d1, d2] }
  | _ => none }
def VlistPrunesWrongFalsely : Prop := vlistPrunesRow.holds Try.pinned (OpenSpec.ofChange vlistPrunesWrong)

/-- 'galleylaw11.VlistSizes': WHATEVER THE INPUT: true; the input reads as it did. -/
def vlistSizesSpec : ChangeSpec := { name := "vlistSizes", fn := fun _ => fun
  | [d1, d2, d3] => { results := [.lit (.bool true)], args := [d1, d2, d3] }
  | _ => none }
def vlistSizesRow : OpenClaim := { program := "ytkkdopfdoommnaa", sum := "6d75e02167d2ee5fa89dc7a8b5ceda395526ab604d8d4da0f1391aa29bc52410", func := "galley/galleylaw11.VlistSizes", spec := "vlistSizes", unfollowed := true, recurses := true, apart := false }
def VlistSizesSaid : Prop := vlistSizesRow.holds Try.pinned (OpenSpec.ofChange vlistSizesSpec)

/-- ITS FALSE NEIGHBOUR: 'it returns false'. Refute it at one input. -/
def vlistSizesWrong : ChangeSpec := { name := "vlistSizes", fn := fun _ => fun
  | [d1, d2, d3] => { results := [.lit (.bool false)], args := [d1, d2, d3] }
  | _ => none }
def VlistSizesWrongFalsely : Prop := vlistSizesRow.holds Try.pinned (OpenSpec.ofChange vlistSizesWrong)

/-- 'galleylaw11.VlistCosts': WHATEVER THE INPUT: true; the input reads as it did. -/
def vlistCostsSpec : ChangeSpec := { name := "vlistCosts", fn := fun _ => fun
  | [d1, d2, d3, d4] => { results := [.lit (.bool true)], args := [d1, d2, d3, d4] }
  | _ => none }
def vlistCostsRow : OpenClaim := { program := "ytkkdopfdoommnaa", sum := "6d75e02167d2ee5fa89dc7a8b5ceda395526ab604d8d4da0f1391aa29bc52410", func := "galley/galleylaw11.VlistCosts", spec := "vlistCosts", unfollowed := true, recurses := true, apart := false }
def VlistCostsSaid : Prop := vlistCostsRow.holds Try.pinned (OpenSpec.ofChange vlistCostsSpec)

/-- ITS FALSE NEIGHBOUR: 'it returns false'. Refute it at one input. -/
def vlistCostsWrong : ChangeSpec := { name := "vlistCosts", fn := fun _ => fun
  | [d1, d2, d3, d4] => { results := [.lit (.bool false)], args := [d1, d2, d3, d4] }
  | _ => none }
def VlistCostsWrongFalsely : Prop := vlistCostsRow.holds Try.pinned (OpenSpec.ofChange vlistCostsWrong)

/-- 'galleylaw11.VlistSplits': WHATEVER THE INPUT: true; the input reads as it did. -/
def vlistSplitsSpec : ChangeSpec := { name := "vlistSplits", fn := fun _ => fun
  | [d1, d2, d3, d4] => { results := [.lit (.bool true)], args := [d1, d2, d3, d4] }
  | _ => none }
def vlistSplitsRow : OpenClaim := { program := "ytkkdopfdoommnaa", sum := "6d75e02167d2ee5fa89dc7a8b5ceda395526ab604d8d4da0f1391aa29bc52410", func := "galley/galleylaw11.VlistSplits", spec := "vlistSplits", unfollowed := true, recurses := true, apart := false }
def VlistSplitsSaid : Prop := vlistSplitsRow.holds Try.pinned (OpenSpec.ofChange vlistSplitsSpec)

/-- ITS FALSE NEIGHBOUR: 'it returns false'. Refute it at one input. -/
def vlistSplitsWrong : ChangeSpec := { name := "vlistSplits", fn := fun _ => fun
  | [d1, d2, d3, d4] => { results := [.lit (.bool false)], args := [d1, d2, d3, d4] }
  | _ => none }
def VlistSplitsWrongFalsely : Prop := vlistSplitsRow.holds Try.pinned (OpenSpec.ofChange vlistSplitsWrong)

/-- 'galleylaw11.VlistBest': WHATEVER THE INPUT: true; the input reads as it did. -/
def vlistBestSpec : ChangeSpec := { name := "vlistBest", fn := fun _ => fun
  | [d1, d2, d3] => { results := [.lit (.bool true)], args := [d1, d2, d3] }
  | _ => none }
def vlistBestRow : OpenClaim := { program := "ytkkdopfdoommnaa", sum := "6d75e02167d2ee5fa89dc7a8b5ceda395526ab604d8d4da0f1391aa29bc52410", func := "galley/galleylaw11.VlistBest", spec := "vlistBest", unfollowed := true, recurses := true, apart := false }
def VlistBestSaid : Prop := vlistBestRow.holds Try.pinned (OpenSpec.ofChange vlistBestSpec)

/-- ITS FALSE NEIGHBOUR: 'it returns false'. Refute it at one input. -/
def vlistBestWrong : ChangeSpec := { name := "vlistBest", fn := fun _ => fun
  | [d1, d2, d3] => { results := [.lit (.bool false)], args := [d1, d2, d3] }
  | _ => none }
def VlistBestWrongFalsely : Prop := vlistBestRow.holds Try.pinned (OpenSpec.ofChange vlistBestWrong)

/- THE SECOND FORM. 'bulk': how many values and letters a reading holds, each counted each time it is reached (what is shared counts as often as it is met; a slice's spare places count too). A statement '..UptoSaid' is the law's where the arguments, and the package variables that the reading takes, are together of bulk at most 1048576: NARROWER than '..Said'. Prove '..Said' where nothing that the law and all that it calls make is longer than what came in: it says more and counts as full. Else prove '..UptoSaid'. A law counts once. -/
mutual
def uptoBulk {H : Type} : DataW H → Nat
  | .lit (.string bytes) => bytes.length + 1
  | .lit _ => 1
  | .nil => 1
  | .ptr d => uptoBulk d + 1
  | .slice elems spare => uptoBulkAll elems + uptoBulkAll spare + 1
  | .agg parts => uptoBulkAll parts + 1
  | .iface _ d => uptoBulk d + 1
  | .map entries => uptoBulkEntries entries + 1
  | .held _ => 1
def uptoBulkAll {H : Type} : List (DataW H) → Nat
  | [] => 0
  | d :: r => uptoBulk d + uptoBulkAll r
def uptoBulkEntries {H : Type} : List (Lit × DataW H) → Nat
  | [] => 0
  | x :: r => uptoBulkEntry x + uptoBulkEntries r
def uptoBulkEntry {H : Type} : Lit × DataW H → Nat
  | (.string bytes, d) => bytes.length + uptoBulk d + 1
  | (_, d) => uptoBulk d + 1
 end
def uptoSmall : (H : Type) → List (DataW H) → Bool := fun _ ds => decide (uptoBulkAll ds ≤ 1048576)
def OpenSpec.upto (s : _root_.Go.ChangeSpec) : _root_.Go.OpenSpec := { _root_.Go.OpenSpec.ofChange s with cond := some uptoSmall }

/-- 'galleylaw11.VlistApart', WHERE WHAT IT READS IS OF BULK AT MOST 1048576: true; the input reads as it did. -/
def vlistApartUptoRow : OpenClaim := { program := "ytkkdopfdoommnaa", sum := "6d75e02167d2ee5fa89dc7a8b5ceda395526ab604d8d4da0f1391aa29bc52410", func := "galley/galleylaw11.VlistApart", spec := "vlistApart", unfollowed := true, recurses := true, apart := false, narrowed := true }
def VlistApartUptoSaid : Prop := vlistApartUptoRow.holds Try.pinned (OpenSpec.upto vlistApartSpec)

/-- 'galleylaw20.MathlTables', WHERE WHAT IT READS IS OF BULK AT MOST 1048576: true; the input reads as it did. -/
def mathlTablesUptoRow : OpenClaim := { program := "ytkkdopfdoommnaa", sum := "6d75e02167d2ee5fa89dc7a8b5ceda395526ab604d8d4da0f1391aa29bc52410", func := "galley/galleylaw20.MathlTables", spec := "mathlTables", recurses := true, apart := false, narrowed := true }
def MathlTablesUptoSaid : Prop := mathlTablesUptoRow.holds Try.pinned (OpenSpec.upto mathlTablesSpec)

/-- 'galleylaw20.MathlBins', WHERE WHAT IT READS IS OF BULK AT MOST 1048576: true; the input reads as it did. -/
def mathlBinsUptoRow : OpenClaim := { program := "ytkkdopfdoommnaa", sum := "6d75e02167d2ee5fa89dc7a8b5ceda395526ab604d8d4da0f1391aa29bc52410", func := "galley/galleylaw20.MathlBins", spec := "mathlBins", recurses := true, apart := false, narrowed := true }
def MathlBinsUptoSaid : Prop := mathlBinsUptoRow.holds Try.pinned (OpenSpec.upto mathlBinsSpec)

/-- 'galleylaw20.MathlStyles', WHERE WHAT IT READS IS OF BULK AT MOST 1048576: true; the input reads as it did. -/
def mathlStylesUptoRow : OpenClaim := { program := "ytkkdopfdoommnaa", sum := "6d75e02167d2ee5fa89dc7a8b5ceda395526ab604d8d4da0f1391aa29bc52410", func := "galley/galleylaw20.MathlStyles", spec := "mathlStyles", recurses := true, apart := false, narrowed := true }
def MathlStylesUptoSaid : Prop := mathlStylesUptoRow.holds Try.pinned (OpenSpec.upto mathlStylesSpec)

/-- 'galleylaw20.MathlChecks', WHERE WHAT IT READS IS OF BULK AT MOST 1048576: true; the input reads as it did. -/
def mathlChecksUptoRow : OpenClaim := { program := "ytkkdopfdoommnaa", sum := "6d75e02167d2ee5fa89dc7a8b5ceda395526ab604d8d4da0f1391aa29bc52410", func := "galley/galleylaw20.MathlChecks", spec := "mathlChecks", recurses := true, apart := false, narrowed := true }
def MathlChecksUptoSaid : Prop := mathlChecksUptoRow.holds Try.pinned (OpenSpec.upto mathlChecksSpec)

/-- 'galleylaw11.VlistPrunes', WHERE WHAT IT READS IS OF BULK AT MOST 1048576: true; the input reads as it did. -/
def vlistPrunesUptoRow : OpenClaim := { program := "ytkkdopfdoommnaa", sum := "6d75e02167d2ee5fa89dc7a8b5ceda395526ab604d8d4da0f1391aa29bc52410", func := "galley/galleylaw11.VlistPrunes", spec := "vlistPrunes", unfollowed := true, recurses := true, apart := false, narrowed := true }
def VlistPrunesUptoSaid : Prop := vlistPrunesUptoRow.holds Try.pinned (OpenSpec.upto vlistPrunesSpec)

/-- 'galleylaw11.VlistSizes', WHERE WHAT IT READS IS OF BULK AT MOST 1048576: true; the input reads as it did. -/
def vlistSizesUptoRow : OpenClaim := { program := "ytkkdopfdoommnaa", sum := "6d75e02167d2ee5fa89dc7a8b5ceda395526ab604d8d4da0f1391aa29bc52410", func := "galley/galleylaw11.VlistSizes", spec := "vlistSizes", unfollowed := true, recurses := true, apart := false, narrowed := true }
def VlistSizesUptoSaid : Prop := vlistSizesUptoRow.holds Try.pinned (OpenSpec.upto vlistSizesSpec)

/-- 'galleylaw11.VlistCosts', WHERE WHAT IT READS IS OF BULK AT MOST 1048576: true; the input reads as it did. -/
def vlistCostsUptoRow : OpenClaim := { program := "ytkkdopfdoommnaa", sum := "6d75e02167d2ee5fa89dc7a8b5ceda395526ab604d8d4da0f1391aa29bc52410", func := "galley/galleylaw11.VlistCosts", spec := "vlistCosts", unfollowed := true, recurses := true, apart := false, narrowed := true }
def VlistCostsUptoSaid : Prop := vlistCostsUptoRow.holds Try.pinned (OpenSpec.upto vlistCostsSpec)

/-- 'galleylaw11.VlistSplits', WHERE WHAT IT READS IS OF BULK AT MOST 1048576: true; the input reads as it did. -/
def vlistSplitsUptoRow : OpenClaim := { program := "ytkkdopfdoommnaa", sum := "6d75e02167d2ee5fa89dc7a8b5ceda395526ab604d8d4da0f1391aa29bc52410", func := "galley/galleylaw11.VlistSplits", spec := "vlistSplits", unfollowed := true, recurses := true, apart := false, narrowed := true }
def VlistSplitsUptoSaid : Prop := vlistSplitsUptoRow.holds Try.pinned (OpenSpec.upto vlistSplitsSpec)

/-- 'galleylaw11.VlistBest', WHERE WHAT IT READS IS OF BULK AT MOST 1048576: true; the input reads as it did. -/
def vlistBestUptoRow : OpenClaim := { program := "ytkkdopfdoommnaa", sum := "6d75e02167d2ee5fa89dc7a8b5ceda395526ab604d8d4da0f1391aa29bc52410", func := "galley/galleylaw11.VlistBest", spec := "vlistBest", unfollowed := true, recurses := true, apart := false, narrowed := true }
def VlistBestUptoSaid : Prop := vlistBestUptoRow.holds Try.pinned (OpenSpec.upto vlistBestSpec)

end Rows
end Go.Proofs.Ytkkdopfdoommnaa
