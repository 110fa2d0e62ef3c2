/-
  The document's Along, light, Sum.
-/
import Derived.Test.YtiijpbfkchokaaaGreatW3
import Derived.Test.YtiijpbfkchokaaaGreatL6
import Derived.Deep.CutBlock
namespace Go.Proofs.YtiijpbfkchokaaaGreat
open Go.ChangeShapes Go.WideShapes Go.ChangeAt Go.RowKit
attribute [local go_sem ↓] Go.wp_at_zero Go.wp_at_succ
theorem tt_get_st (T : Tt) : ∀ j, j ≤ 3 → T.arr[1 + j]? = some (.int .i64 (T.st j))
  | 0, _ | 1, _ | 2, _ | 3, _ => rfl
theorem tt_get_sh (T : Tt) : ∀ j, j ≤ 3 → T.arr[5 + j]? = some (.int .i64 (T.sh j))
  | 0, _ | 1, _ | 2, _ | 3, _ => rfl
theorem tt_set_st (T : Tt) (x : Int) : ∀ j, j ≤ 3 → T.arr.setIfInBounds (1 + j) (.int .i64 x) = (T.setS j x).arr
  | 0, _ | 1, _ | 2, _ | 3, _ => rfl
theorem tt_set_sh (T : Tt) (x : Int) : ∀ j, j ≤ 3 → T.arr.setIfInBounds (5 + j) (.int .i64 x) = (T.setH j x).arr
  | 0, _ | 1, _ | 2, _ | 3, _ => rfl
theorem TAt.cell {W : World} {b : Nat} {T : Tt} (h : TAt W b T) (k : Nat) (v : Value) (hv : T.arr[k]? = some v) : W.cell? ⟨b, k, none⟩ = some v := by rw [cell?_blk' h, hv]
theorem TAt.frozen {W : World} {b : Nat} {T : Tt} (h : TAt W b T) (k : Nat) : W.frozen? ⟨b, k, none⟩ = false := frozen_of_row W b k _ _ h
theorem TAt.set {W : World} {b : Nat} {T T' : Tt} (h : TAt W b T) (k : Nat) (v : Value) (hm : T.arr.setIfInBounds k v = T'.arr) : TAt (W.setCell ⟨b, k, none⟩ v) b T' := by
  have := heap_setCell_same W b k _ _ v h
  rw [hm] at this
  exact this
theorem irow_cell {W : World} {B n : Nat} {v : Value} {s : List Nat} (h : W.ownsRow B 3 1 v n (ints (ofN s))) {i : Nat} (hi : i < s.length) : ∃ g c, v = .slice (some ⟨g, 0, none⟩) n c ∧ n = s.length ∧ n ≤ c ∧ W.cell? ⟨g, i, none⟩ = some (.int .i64 (s[i] : Nat)) := by
  have hn : s.length = n := by have := h.1; rw [ints_len, ofN_len] at this; omega
  obtain ⟨g, c, rfl, _, _⟩ := h.form (by omega)
  refine ⟨g, c, rfl, hn.symm, owns_cap h, ?_⟩
  have := h.cells (g := g) rfl i (.int .i64 (s[i] : Nat)) (by rw [ints_idx]; simp [ofN, hi])
  rwa [show (⟨g, 0, none⟩ : Addr).add i = ⟨g, i, none⟩ by unfold Addr.add; split <;> simp_all] at this
end Go.Proofs.YtiijpbfkchokaaaGreat


