/-
  The laws' own functions over lists of nodes: Apart of one list (trial: the loops' forms).
-/
import Derived.Test.YtkkdopfdoommnaaK4
namespace Go.Proofs.Ytkkdopfdoommnaa
open Go.ChangeShapes Go.WideShapes Go.ChangeAt Go.RowKit Go.Shelf
/-- one list of lists, of one list -/
structure One (w : World) (Y : Nat) (v : Value) : Prop where
  blk : ∃ t, w.heap[Y]? = some (.cells #[v] t (0, 0))
theorem One.cell {w : World} {Y : Nat} {v : Value} (h : One w Y v) : w.cell? ⟨Y, 0, none⟩ = some v := by obtain ⟨t, h⟩ := h.blk; simp [World.cell?, h]
theorem One.of {w w' : World} {Y : Nat} {v : Value} (h : One w Y v) (e : w'.heap[Y]? = w.heap[Y]?) : One w' Y v := by obtain ⟨t, h⟩ := h.blk; exact ⟨t, e.trans h⟩
/-- another place of the same block -/
theorem agg?_setAgg_far {w : World} {b o o' n : Nat} {c C : Array Value} {t : TypeId} {fr : Nat × Nat} (hb : w.heap[b]? = some (.cells C t fr)) (hs : o + c.size ≤ C.size) (h : o' + n ≤ o ∨ o + c.size ≤ o') : agg? (setAgg w b o c) b o' n = agg? w b o' n := by
  unfold agg? setAgg
  rw [heap_setCells_same b t fr c.toList o C w hb, hb]
  simp only [size_setMany]
  split
  · congr 1
    apply Array.ext_getElem?
    intro k
    rw [Array.getElem?_extract, Array.getElem?_extract, size_setMany]
    split
    · rw [get_setMany _ _ _ _ (by simpa using hs), if_neg (by simp; omega)]
    · rfl
  · rfl
theorem nin_set {w : World} {g c : Nat} {C : Array Value} {t : TypeId} {L : List Nd} (hb : w.heap[g]? = some (.cells C t (0, 0))) (hC : L.length * 19 ≤ C.size) (h : NIn w (some ⟨g, 0, none⟩) g 0 c L) (k : Nat) (hk : k < L.length) (m : Nd) : NIn (setAgg w g (k * 19) m.arr) (some ⟨g, 0, none⟩) g 0 c (L.set k m) := by
  have hms : m.arr.size = 19 := Nd.size_arr m
  refine ⟨fun _ => rfl, fun _ => by rw [size_setAgg]; exact (Array.getElem?_eq_some_iff.1 hb).1, fun j hj => ?_, by simpa using h.cap', by simpa using h.len⟩
  have hj' : j < L.length := by simpa using hj
  by_cases e : j = k
  · subst e
    rw [List.getElem_set_self, Nat.zero_add]
    refine agg?_setAgg_nd ?_
    unfold there?
    rw [hb]
    simp; omega
  · rw [List.getElem_set_ne (by omega), agg?_setAgg_far hb (by rw [hms]; omega) (by rw [hms]; omega)]
    exact h.nd j hj'
end Go.Proofs.Ytkkdopfdoommnaa
