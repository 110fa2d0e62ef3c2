/-
  Maps from whole numbers: what a look-up gives, what a store leaves. No statement of the seat stands here.
-/
import Derived.Test.YtomehdepjenilaaGreatBase
import Derived.Maps.Own
import Derived.Maps.OwnOps
namespace Go.Proofs.YtomehdepjenilaaGreat
open Go.ChangeShapes Go.WideShapes Go.ChangeAt Go.RowKit Go.MapKept
def MapV (W : World) (mb : Nat) (M : List (Value × Value)) : Prop := ∃ es clock, W.heap[mb]? = some (.map es clock) ∧ es.toList.map (fun e => (e.key, e.val)) = M
def intM (M : List (Int × Value)) : List (Value × Value) := M.map fun p => (.int .i64 p.1, p.2)
theorem MapV.lt {W : World} {mb : Nat} {M : List (Value × Value)} (h : MapV W mb M) : mb < W.heap.size := by
  obtain ⟨es, c, hb, _⟩ := h
  exact (Array.getElem?_eq_some_iff.1 hb).1
theorem MapV.same {W W' : World} {mb : Nat} {M : List (Value × Value)} (h : MapV W mb M) (hs : W'.heap[mb]? = W.heap[mb]?) : MapV W' mb M := by
  obtain ⟨es, c, hb, hm⟩ := h
  exact ⟨es, c, hs.trans hb, hm⟩
theorem MapV.new (W : World) : MapV (W.alloc (.map #[] 0)) W.heap.size [] := ⟨#[], 0, heap_alloc_new W _, rfl⟩
section
variable {P : Program} {w : World} {mty kt et : TypeId}
end
end Go.Proofs.YtomehdepjenilaaGreat
