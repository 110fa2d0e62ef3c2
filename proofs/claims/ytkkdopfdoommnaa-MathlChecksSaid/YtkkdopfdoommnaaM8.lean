/-
  Layer 20: the classes of a formula's items, counted.
-/
import Derived.Test.YtkkdopfdoommnaaM6
import Derived.Deep.LoopGhost
import Derived.Outline
namespace Go.Proofs.Ytkkdopfdoommnaa
open Go.ChangeShapes Go.WideShapes Go.ChangeAt Go.RowKit
attribute [local go_sem ↓] Go.wp_at_zero Go.wp_at_succ

set_option maxHeartbeats 1000000 in
theorem class_any (it : It) (w : World) : Calls Try.prog 82 #[.agg it.arr] w fun e w' => e = .returned (.int .i64 (classI it.sign.kind)) ∧ Below w.heap.size w w' := by
  go_enter Try.func82, Try.ntmps82
  go_wp2
  all_goals go_ret
  all_goals exact ⟨by first | (simp_all [classI]; done) | (simp_all [classI]; omega), (Below.refl _ _).alloc (Nat.le_refl _) _⟩

/-- the array of the counts: what stands in it, where the last counted class stands, what has been counted -/
def Counts (outs : List Int) (last : Int) (acc : List Int) : Prop :=
  (last = -1 ∧ acc = [] ∧ ∀ x ∈ outs, x = 0) ∨ (∃ (pre : List Int) (h : Int) (z : Nat), outs = pre ++ h :: List.replicate z 0 ∧ last = pre.length ∧ h ≠ 0 ∧ acc = h :: (pre.filter (· ≠ 0)).reverse)
theorem all_zero {l : List Int} (h : ∀ x ∈ l, x = 0) : l = List.replicate l.length 0 := List.eq_replicate_iff.2 ⟨rfl, h⟩
theorem Counts.filter {outs : List Int} {last : Int} {acc : List Int} (h : Counts outs last acc) : outs.filter (· ≠ 0) = acc.reverse := by
  obtain ⟨rfl, rfl, h0⟩ | ⟨pre, h, z, rfl, rfl, hn, rfl⟩ := h
  · rw [List.filter_eq_nil_iff.2 (fun x hx => by simp [h0 x hx])]; rfl
  · simp [List.filter_append, hn]
/-- the class c ≠ 0 is put at place i, behind all that has been counted -/
theorem Counts.put {outs : List Int} {last : Int} {acc : List Int} (h : Counts outs last acc) {i : Nat} (hi : i < outs.length) (hz : ∀ k, i ≤ k → k < outs.length → outs[k]? = some 0) {c : Int} (hc : c ≠ 0) :
    Counts (outs.set i c) i (c :: acc) := by
  right
  have e : outs.drop i = List.replicate (outs.length - i) 0 := by
    apply List.ext_getElem?
    intro k
    rw [List.getElem?_drop, List.getElem?_replicate]
    split
    · exact hz _ (by omega) (by omega)
    · rw [List.getElem?_eq_none (by omega)]
  refine ⟨outs.take i, c, outs.length - i - 1, ?_, by simp; omega, hc, ?_⟩
  · rw [List.set_eq_take_append_cons_drop, if_pos hi, ← List.drop_drop, e]
    simp
  · congr 1
    have := h.filter
    rw [← List.take_append_drop i outs, List.filter_append, e] at this
    have e2 : (outs.take i).filter (· ≠ 0) = acc.reverse := by simpa using this
    rw [e2]; simp
theorem Counts.last_lt {outs : List Int} {last : Int} {acc : List Int} (h : Counts outs last acc) (h0 : 0 ≤ last) : last.toNat < outs.length := by
  obtain ⟨rfl, _⟩ | ⟨pre, h, z, rfl, rfl, _⟩ := h
  · omega
  · simp
theorem Counts.nil {outs : List Int} {acc : List Int} (h : Counts outs (-1) acc) : acc = [] := by
  obtain ⟨_, h, _⟩ | ⟨pre, h, z, _, e, _⟩ := h
  · exact h
  · omega
theorem Counts.head {outs : List Int} {last : Int} {acc : List Int} (h : Counts outs last acc) (h0 : 0 ≤ last) : ∃ x r, outs[last.toNat]? = some x ∧ acc = x :: r ∧ x ≠ 0 ∧ ∀ y, y ≠ 0 → Counts (outs.set last.toNat y) last (y :: r) := by
  obtain ⟨rfl, _⟩ | ⟨pre, h, z, rfl, rfl, hn, rfl⟩ := h
  · omega
  · refine ⟨h, _, by simp, rfl, hn, fun y hy => .inr ⟨pre, y, z, by simp, rfl, hy, rfl⟩⟩
theorem Counts.neg {outs : List Int} {last : Int} {acc : List Int} (h : Counts outs last acc) (h0 : last < 0) : last = -1 ∧ acc = [] := by
  obtain ⟨h1, h, _⟩ | ⟨pre, h, z, _, e, _⟩ := h
  · exact ⟨h1, h⟩
  · omega
end Go.Proofs.Ytkkdopfdoommnaa
