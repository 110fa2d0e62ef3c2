/-
  Layer 20: the spaces of the program, left classes 5 to 8, and none.
-/
import Derived.Test.YtkkdopfdoommnaaM14d
namespace Go.Proofs.Ytkkdopfdoommnaa
open Go.ChangeShapes Go.WideShapes Go.ChangeAt Go.RowKit

set_option maxHeartbeats 4000000 in
theorem mspace_5 (r : Int) (h : 1 ≤ r ∧ r ≤ 8) (b : Bool) (w : World) : Calls Try.prog 18 #[.int .i64 5, .int .i64 r, .bool b] w fun e w' => e = .returned (.int .i64 (spaceI 5 r b)) ∧ Below w.heap.size w w' := by
  rcases one8 h with rfl | rfl | rfl | rfl | rfl | rfl | rfl | rfl <;> cases b
  all_goals clear h
  all_goals go_enter Try.func18, Try.ntmps18
  all_goals go_wp2_with fail
  all_goals go_ret
  all_goals exact ⟨rfl, (Below.refl _ _).alloc (Nat.le_refl _) _⟩


set_option maxHeartbeats 4000000 in
theorem mspace_6 (r : Int) (h : 1 ≤ r ∧ r ≤ 8) (b : Bool) (w : World) : Calls Try.prog 18 #[.int .i64 6, .int .i64 r, .bool b] w fun e w' => e = .returned (.int .i64 (spaceI 6 r b)) ∧ Below w.heap.size w w' := by
  rcases one8 h with rfl | rfl | rfl | rfl | rfl | rfl | rfl | rfl <;> cases b
  all_goals clear h
  all_goals go_enter Try.func18, Try.ntmps18
  all_goals go_wp2_with fail
  all_goals go_ret
  all_goals exact ⟨rfl, (Below.refl _ _).alloc (Nat.le_refl _) _⟩


set_option maxHeartbeats 4000000 in
theorem mspace_7 (r : Int) (h : 1 ≤ r ∧ r ≤ 8) (b : Bool) (w : World) : Calls Try.prog 18 #[.int .i64 7, .int .i64 r, .bool b] w fun e w' => e = .returned (.int .i64 (spaceI 7 r b)) ∧ Below w.heap.size w w' := by
  rcases one8 h with rfl | rfl | rfl | rfl | rfl | rfl | rfl | rfl <;> cases b
  all_goals clear h
  all_goals go_enter Try.func18, Try.ntmps18
  all_goals go_wp2_with fail
  all_goals go_ret
  all_goals exact ⟨rfl, (Below.refl _ _).alloc (Nat.le_refl _) _⟩


set_option maxHeartbeats 4000000 in
theorem mspace_8 (r : Int) (h : 1 ≤ r ∧ r ≤ 8) (b : Bool) (w : World) : Calls Try.prog 18 #[.int .i64 8, .int .i64 r, .bool b] w fun e w' => e = .returned (.int .i64 (spaceI 8 r b)) ∧ Below w.heap.size w w' := by
  rcases one8 h with rfl | rfl | rfl | rfl | rfl | rfl | rfl | rfl <;> cases b
  all_goals clear h
  all_goals go_enter Try.func18, Try.ntmps18
  all_goals go_wp2_with fail
  all_goals go_ret
  all_goals exact ⟨rfl, (Below.refl _ _).alloc (Nat.le_refl _) _⟩


set_option maxHeartbeats 4000000 in
theorem mspace_out (l r : Int) (h : ¬ ((1 ≤ l ∧ l ≤ 8) ∧ (1 ≤ r ∧ r ≤ 8))) (b : Bool) (w : World) : Calls Try.prog 18 #[.int .i64 l, .int .i64 r, .bool b] w fun e w' => e = .returned (.int .i64 (spaceI l r b)) ∧ Below w.heap.size w w' := by
  have H := Lib.hid h
  by_cases h1 : l < 1
  · clear h
    go_enter Try.func18, Try.ntmps18
    go_wp2
    go_ret
    exact ⟨ret_int (by rw [spaceI, if_neg H.out]), .refl _ _⟩
  by_cases h2 : 8 < l
  · clear h
    go_enter Try.func18, Try.ntmps18
    go_wp2
    go_ret
    exact ⟨ret_int (by rw [spaceI, if_neg H.out]), .refl _ _⟩
  by_cases h3 : r < 1
  · clear h
    go_enter Try.func18, Try.ntmps18
    go_wp2
    go_ret
    exact ⟨ret_int (by rw [spaceI, if_neg H.out]), .refl _ _⟩
  have h4 : 8 < r := by omega
  clear h
  go_enter Try.func18, Try.ntmps18
  go_wp2
  go_ret
  exact ⟨ret_int (by rw [spaceI, if_neg H.out]), .refl _ _⟩

end Go.Proofs.Ytkkdopfdoommnaa
