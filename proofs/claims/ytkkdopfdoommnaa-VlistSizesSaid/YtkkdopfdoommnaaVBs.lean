/-
  A slice of one node, of two nodes: what the walk makes of it.
-/
import Derived.Test.YtkkdopfdoommnaaV1
import Derived.Great.BuildSlice
namespace Go.Proofs.Ytkkdopfdoommnaa
open Go.ChangeShapes Go.WideShapes Go.ChangeAt Go.RowKit

def bsNd1 (parts : Array (Nat × Value)) : Sem Value := Instr.buildSlice 26 1 parts
def bsNd2 (parts : Array (Nat × Value)) : Sem Value := Instr.buildSlice 26 2 parts
@[go_sem ↓] theorem execOp_bsNd1 (ρ : Operand → Value) (dst : Option Tmp) (x : Array (Nat × Operand)) (ty : TypeId) (pos : String) (after : Array Edge) (guard : Option (Nat × Bool)) :
    execOp ρ { dst, op := .buildSlice 26 1 x, type := ty, pos, after, guard } = (do pure (.value (← bsNd1 (x.map fun (i, y) => (i, ρ y))))) := rfl
@[go_sem ↓] theorem execOp_bsNd2 (ρ : Operand → Value) (dst : Option Tmp) (x : Array (Nat × Operand)) (ty : TypeId) (pos : String) (after : Array Edge) (guard : Option (Nat × Bool)) :
    execOp ρ { dst, op := .buildSlice 26 2 x, type := ty, pos, after, guard } = (do pure (.value (← bsNd2 (x.map fun (i, y) => (i, ρ y))))) := rfl
theorem fill_nd1 (n : Nd) : Instr.fill (fun i => some (i * 19, 19)) ((Array.range (1 * 19)).map ((Value.agg Nd.zero.arr).cells[· % (Value.agg Nd.zero.arr).cells.size]!)) [(0, .agg n.arr)] = some n.arr := by kernel_rfl
theorem fill_nd2 (n m : Nd) : Instr.fill (fun i => some (i * 19, 19)) ((Array.range (2 * 19)).map ((Value.agg Nd.zero.arr).cells[· % (Value.agg Nd.zero.arr).cells.size]!)) [(0, .agg n.arr), (1, .agg m.arr)] = some (n.cells ++ m.cells).toArray := by kernel_rfl
theorem info_nd0 : (Try.prog.info? 25).map (fun i => (i.zero, i.size)) = some (some (.agg Nd.zero.arr), 19) := by kernel_rfl
@[go_sem] theorem run_bsNd1 (n : Nd) (w : World) : (bsNd1 #[(0, .agg n.arr)]).run Try.prog w = .ok (.slice (some ⟨w.heap.size, 0, none⟩) 1 1) (w.alloc (.cells n.arr 25)) := by
  obtain ⟨i, hi, hzz⟩ := Option.map_eq_some_iff.1 info_nd0
  simp only [Prod.mk.injEq] at hzz
  obtain ⟨hz, hs⟩ := hzz
  refine run_buildSlice w _ 25 1 _ n.arr i (.agg Nd.zero.arr) Try.underlying26 hi hz (by rw [hs]; decide) (by rw [hs]; decide) ?_
  rw [hs]
  exact fill_nd1 n
@[go_sem] theorem run_bsNd2 (n m : Nd) (w : World) : (bsNd2 #[(0, .agg n.arr), (1, .agg m.arr)]).run Try.prog w = .ok (.slice (some ⟨w.heap.size, 0, none⟩) 2 2) (w.alloc (.cells (n.cells ++ m.cells).toArray 25)) := by
  obtain ⟨i, hi, hzz⟩ := Option.map_eq_some_iff.1 info_nd0
  simp only [Prod.mk.injEq] at hzz
  obtain ⟨hz, hs⟩ := hzz
  refine run_buildSlice w _ 25 2 _ _ i (.agg Nd.zero.arr) Try.underlying26 hi hz (by rw [hs]; decide) (by rw [hs]; decide) ?_
  rw [hs]
  exact fill_nd2 n m
theorem nodes_blk {w : World} {L : List Nd} {g : Nat} (h : w.heap[g]? = some (.cells (L.flatMap Nd.cells).toArray 25 (0, 0))) (hlen : L.length * 160 ≤ 140737488351232) : NIn w (some ⟨g, 0, none⟩) g 0 L.length L := by
  refine ⟨fun _ => rfl, fun _ => (Array.getElem?_eq_some_iff.1 h).1, fun i hi => ?_, Nat.le_refl _, hlen⟩
  have hs : (L.flatMap Nd.cells).toArray.size = L.length * 19 := by rw [List.size_toArray, flat_len]
  rw [agg?_blk' h _ _ (by rw [hs]; omega)]
  congr 1
  have e := flat_nodes L i hi
  show _ = (L[i]).cells.toArray
  rw [← e]
  apply Array.ext'
  simp [List.take_drop]
theorem nodes_two {w : World} {n m : Nd} {g : Nat} (h : w.heap[g]? = some (.cells (n.cells ++ m.cells).toArray 25 (0, 0))) : NIn w (some ⟨g, 0, none⟩) g 0 2 [n, m] := by
  refine nodes_blk (L := [n, m]) (by rw [h, List.flatMap_cons, List.flatMap_cons, List.flatMap_nil, List.append_nil]) (by simp)
end Go.Proofs.Ytkkdopfdoommnaa
