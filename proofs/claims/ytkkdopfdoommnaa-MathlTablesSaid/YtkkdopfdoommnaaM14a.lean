/-
  Layer 20: the spaces of the program, left classes 1 to 4.
-/
import Derived.Test.YtkkdopfdoommnaaM14d
namespace Go.Proofs.Ytkkdopfdoommnaa
open Go.ChangeShapes Go.WideShapes Go.ChangeAt Go.RowKit

set_option maxHeartbeats 4000000 in
theorem mspace_1 (r : Int) (h : 1 ≤ r ∧ r ≤ 8) (b : Bool) (w : World) : Calls Try.prog 18 #[.int .i64 1, .int .i64 r, .bool b] w fun e w' => e = .returned (.int .i64 (spaceI 1 r b)) ∧ Below w.heap.size w w' := by
  rcases one8 h with rfl | rfl | rfl | rfl | rfl | rfl | rfl | rfl <;> cases b
  all_goals clear h
  all_goals go_enter Try.func18, Try.ntmps18
  all_goals go_wp2_with fail
  all_goals go_ret
  all_goals exact ⟨rfl, (Below.refl _ _).alloc (Nat.le_refl _) _⟩


set_option maxHeartbeats 4000000 in
theorem mspace_2 (r : Int) (h : 1 ≤ r ∧ r ≤ 8) (b : Bool) (w : World) : Calls Try.prog 18 #[.int .i64 2, .int .i64 r, .bool b] w fun e w' => e = .returned (.int .i64 (spaceI 2 r b)) ∧ Below w.heap.size w w' := by
  rcases one8 h with rfl | rfl | rfl | rfl | rfl | rfl | rfl | rfl <;> cases b
  all_goals clear h
  all_goals go_enter Try.func18, Try.ntmps18
  all_goals go_wp2_with fail
  all_goals go_ret
  all_goals exact ⟨rfl, (Below.refl _ _).alloc (Nat.le_refl _) _⟩


set_option maxHeartbeats 4000000 in
theorem mspace_3 (r : Int) (h : 1 ≤ r ∧ r ≤ 8) (b : Bool) (w : World) : Calls Try.prog 18 #[.int .i64 3, .int .i64 r, .bool b] w fun e w' => e = .returned (.int .i64 (spaceI 3 r b)) ∧ Below w.heap.size w w' := by
  rcases one8 h with rfl | rfl | rfl | rfl | rfl | rfl | rfl | rfl <;> cases b
  all_goals clear h
  all_goals go_enter Try.func18, Try.ntmps18
  all_goals go_wp2_with fail
  all_goals go_ret
  all_goals exact ⟨rfl, (Below.refl _ _).alloc (Nat.le_refl _) _⟩


set_option maxHeartbeats 4000000 in
theorem mspace_4 (r : Int) (h : 1 ≤ r ∧ r ≤ 8) (b : Bool) (w : World) : Calls Try.prog 18 #[.int .i64 4, .int .i64 r, .bool b] w fun e w' => e = .returned (.int .i64 (spaceI 4 r b)) ∧ Below w.heap.size w w' := by
  rcases one8 h with rfl | rfl | rfl | rfl | rfl | rfl | rfl | rfl <;> cases b
  all_goals clear h
  all_goals go_enter Try.func18, Try.ntmps18
  all_goals go_wp2_with fail
  all_goals go_ret
  all_goals exact ⟨rfl, (Below.refl _ _).alloc (Nat.le_refl _) _⟩

end Go.Proofs.Ytkkdopfdoommnaa
