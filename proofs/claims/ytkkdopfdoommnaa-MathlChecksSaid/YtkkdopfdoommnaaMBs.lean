/-
  Layer 20: a slice of one item, a slice of one sign: what the walk makes of it.
-/
import Derived.Test.YtkkdopfdoommnaaMItem
import Derived.Great.BuildSlice
namespace Go.Proofs.Ytkkdopfdoommnaa
open Go.ChangeShapes Go.WideShapes Go.ChangeAt Go.RowKit

def bsIt (parts : Array (Nat × Value)) : Sem Value := Instr.buildSlice 101 1 parts
@[go_sem ↓] theorem execOp_bsIt (ρ : Operand → Value) (dst : Option Tmp) (x : Array (Nat × Operand)) (ty : TypeId) (pos : String) (after : Array Edge) (guard : Option (Nat × Bool)) :
    execOp ρ { dst, op := .buildSlice 101 1 x, type := ty, pos, after, guard } = (do pure (.value (← bsIt (x.map fun (i, y) => (i, ρ y))))) := rfl
theorem fill_it (it : It) : Instr.fill (fun i => some (i * 21, 21)) ((Array.range (1 * 21)).map ((Value.agg It.zero.arr).cells[· % (Value.agg It.zero.arr).cells.size]!)) [(0, .agg it.arr)] = some it.arr := by kernel_rfl
theorem info_it0 : (Try.prog.info? 145).map (fun i => (i.zero, i.size)) = some (some (.agg It.zero.arr), 21) := by kernel_rfl
@[go_sem] theorem run_bsIt (it : It) (w : World) : (bsIt #[(0, .agg it.arr)]).run Try.prog w = .ok (.slice (some ⟨w.heap.size, 0, none⟩) 1 1) (w.alloc (.cells it.arr 145)) := by
  obtain ⟨i, hi, hzz⟩ := Option.map_eq_some_iff.1 info_it0
  simp only [Prod.mk.injEq] at hzz
  obtain ⟨hz, hs⟩ := hzz
  refine run_buildSlice w _ 145 1 _ it.arr i (.agg It.zero.arr) Try.underlying101 hi hz (by rw [hs]; decide) (by rw [hs]; decide) ?_
  rw [hs]
  exact fill_it it
end Go.Proofs.Ytkkdopfdoommnaa
