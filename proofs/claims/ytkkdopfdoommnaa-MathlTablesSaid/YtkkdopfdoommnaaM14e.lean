/-
  Layer 20: the spaces of the document, left classes 1 to 4.
-/
import Derived.Test.YtkkdopfdoommnaaM14d
namespace Go.Proofs.Ytkkdopfdoommnaa
open Go.ChangeShapes Go.WideShapes Go.ChangeAt Go.RowKit

set_option maxHeartbeats 4000000 in
theorem rspace_1 (r : Int) (h : 1 ≤ r ∧ r ≤ 8) (b : Bool) (w : World) : Calls Try.prog 19 #[.int .i64 1, .int .i64 r, .bool b] w fun e w' => e = .returned (.int .i64 (spaceI 1 r b)) ∧ Below w.heap.size w w' := by
  have hw1 : withinB 1 1 8 = true := rfl
  have hw2 : withinB 2 1 8 = true := rfl
  have hw3 : withinB 3 1 8 = true := rfl
  have hw4 : withinB 4 1 8 = true := rfl
  have hw5 : withinB 5 1 8 = true := rfl
  have hw6 : withinB 6 1 8 = true := rfl
  have hw7 : withinB 7 1 8 = true := rfl
  have hw8 : withinB 8 1 8 = true := rfl
  rcases one8 h with rfl | rfl | rfl | rfl | rfl | rfl | rfl | rfl <;> cases b
  all_goals clear h
  all_goals go_enter Try.func19, Try.ntmps19
  all_goals go_wp2_with (go_at_call 54; refine (rwithin_any _ _ _ _).mono ?_; rintro e w' ⟨rfl, rfl⟩)
  all_goals go_ret
  all_goals exact ⟨rfl, (Below.refl _ _).alloc (Nat.le_refl _) _⟩


set_option maxHeartbeats 4000000 in
theorem rspace_2 (r : Int) (h : 1 ≤ r ∧ r ≤ 8) (b : Bool) (w : World) : Calls Try.prog 19 #[.int .i64 2, .int .i64 r, .bool b] w fun e w' => e = .returned (.int .i64 (spaceI 2 r b)) ∧ Below w.heap.size w w' := by
  have hw1 : withinB 1 1 8 = true := rfl
  have hw2 : withinB 2 1 8 = true := rfl
  have hw3 : withinB 3 1 8 = true := rfl
  have hw4 : withinB 4 1 8 = true := rfl
  have hw5 : withinB 5 1 8 = true := rfl
  have hw6 : withinB 6 1 8 = true := rfl
  have hw7 : withinB 7 1 8 = true := rfl
  have hw8 : withinB 8 1 8 = true := rfl
  rcases one8 h with rfl | rfl | rfl | rfl | rfl | rfl | rfl | rfl <;> cases b
  all_goals clear h
  all_goals go_enter Try.func19, Try.ntmps19
  all_goals go_wp2_with (go_at_call 54; refine (rwithin_any _ _ _ _).mono ?_; rintro e w' ⟨rfl, rfl⟩)
  all_goals go_ret
  all_goals exact ⟨rfl, (Below.refl _ _).alloc (Nat.le_refl _) _⟩


set_option maxHeartbeats 4000000 in
theorem rspace_3 (r : Int) (h : 1 ≤ r ∧ r ≤ 8) (b : Bool) (w : World) : Calls Try.prog 19 #[.int .i64 3, .int .i64 r, .bool b] w fun e w' => e = .returned (.int .i64 (spaceI 3 r b)) ∧ Below w.heap.size w w' := by
  have hw1 : withinB 1 1 8 = true := rfl
  have hw2 : withinB 2 1 8 = true := rfl
  have hw3 : withinB 3 1 8 = true := rfl
  have hw4 : withinB 4 1 8 = true := rfl
  have hw5 : withinB 5 1 8 = true := rfl
  have hw6 : withinB 6 1 8 = true := rfl
  have hw7 : withinB 7 1 8 = true := rfl
  have hw8 : withinB 8 1 8 = true := rfl
  rcases one8 h with rfl | rfl | rfl | rfl | rfl | rfl | rfl | rfl <;> cases b
  all_goals clear h
  all_goals go_enter Try.func19, Try.ntmps19
  all_goals go_wp2_with (go_at_call 54; refine (rwithin_any _ _ _ _).mono ?_; rintro e w' ⟨rfl, rfl⟩)
  all_goals go_ret
  all_goals exact ⟨rfl, (Below.refl _ _).alloc (Nat.le_refl _) _⟩


set_option maxHeartbeats 4000000 in
theorem rspace_4 (r : Int) (h : 1 ≤ r ∧ r ≤ 8) (b : Bool) (w : World) : Calls Try.prog 19 #[.int .i64 4, .int .i64 r, .bool b] w fun e w' => e = .returned (.int .i64 (spaceI 4 r b)) ∧ Below w.heap.size w w' := by
  have hw1 : withinB 1 1 8 = true := rfl
  have hw2 : withinB 2 1 8 = true := rfl
  have hw3 : withinB 3 1 8 = true := rfl
  have hw4 : withinB 4 1 8 = true := rfl
  have hw5 : withinB 5 1 8 = true := rfl
  have hw6 : withinB 6 1 8 = true := rfl
  have hw7 : withinB 7 1 8 = true := rfl
  have hw8 : withinB 8 1 8 = true := rfl
  rcases one8 h with rfl | rfl | rfl | rfl | rfl | rfl | rfl | rfl <;> cases b
  all_goals clear h
  all_goals go_enter Try.func19, Try.ntmps19
  all_goals go_wp2_with (go_at_call 54; refine (rwithin_any _ _ _ _).mono ?_; rintro e w' ⟨rfl, rfl⟩)
  all_goals go_ret
  all_goals exact ⟨rfl, (Below.refl _ _).alloc (Nat.le_refl _) _⟩

end Go.Proofs.Ytkkdopfdoommnaa
