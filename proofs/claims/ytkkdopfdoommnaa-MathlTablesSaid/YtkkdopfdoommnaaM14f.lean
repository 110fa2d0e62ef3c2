/-
  Layer 20: the spaces of the document, left classes 5 to 8, and none.
-/
import Derived.Test.YtkkdopfdoommnaaM14d
namespace Go.Proofs.Ytkkdopfdoommnaa
open Go.ChangeShapes Go.WideShapes Go.ChangeAt Go.RowKit

set_option maxHeartbeats 4000000 in
theorem rspace_5 (r : Int) (h : 1 ≤ r ∧ r ≤ 8) (b : Bool) (w : World) : Calls Try.prog 19 #[.int .i64 5, .int .i64 r, .bool b] w fun e w' => e = .returned (.int .i64 (spaceI 5 r b)) ∧ Below w.heap.size w w' := by
  have hw1 : withinB 1 1 8 = true := rfl
  have hw2 : withinB 2 1 8 = true := rfl
  have hw3 : withinB 3 1 8 = true := rfl
  have hw4 : withinB 4 1 8 = true := rfl
  have hw5 : withinB 5 1 8 = true := rfl
  have hw6 : withinB 6 1 8 = true := rfl
  have hw7 : withinB 7 1 8 = true := rfl
  have hw8 : withinB 8 1 8 = true := rfl
  rcases one8 h with rfl | rfl | rfl | rfl | rfl | rfl | rfl | rfl <;> cases b
  all_goals clear h
  all_goals go_enter Try.func19, Try.ntmps19
  all_goals go_wp2_with (go_at_call 54; refine (rwithin_any _ _ _ _).mono ?_; rintro e w' ⟨rfl, rfl⟩)
  all_goals go_ret
  all_goals exact ⟨rfl, (Below.refl _ _).alloc (Nat.le_refl _) _⟩


set_option maxHeartbeats 4000000 in
theorem rspace_6 (r : Int) (h : 1 ≤ r ∧ r ≤ 8) (b : Bool) (w : World) : Calls Try.prog 19 #[.int .i64 6, .int .i64 r, .bool b] w fun e w' => e = .returned (.int .i64 (spaceI 6 r b)) ∧ Below w.heap.size w w' := by
  have hw1 : withinB 1 1 8 = true := rfl
  have hw2 : withinB 2 1 8 = true := rfl
  have hw3 : withinB 3 1 8 = true := rfl
  have hw4 : withinB 4 1 8 = true := rfl
  have hw5 : withinB 5 1 8 = true := rfl
  have hw6 : withinB 6 1 8 = true := rfl
  have hw7 : withinB 7 1 8 = true := rfl
  have hw8 : withinB 8 1 8 = true := rfl
  rcases one8 h with rfl | rfl | rfl | rfl | rfl | rfl | rfl | rfl <;> cases b
  all_goals clear h
  all_goals go_enter Try.func19, Try.ntmps19
  all_goals go_wp2_with (go_at_call 54; refine (rwithin_any _ _ _ _).mono ?_; rintro e w' ⟨rfl, rfl⟩)
  all_goals go_ret
  all_goals exact ⟨rfl, (Below.refl _ _).alloc (Nat.le_refl _) _⟩


set_option maxHeartbeats 4000000 in
theorem rspace_7 (r : Int) (h : 1 ≤ r ∧ r ≤ 8) (b : Bool) (w : World) : Calls Try.prog 19 #[.int .i64 7, .int .i64 r, .bool b] w fun e w' => e = .returned (.int .i64 (spaceI 7 r b)) ∧ Below w.heap.size w w' := by
  have hw1 : withinB 1 1 8 = true := rfl
  have hw2 : withinB 2 1 8 = true := rfl
  have hw3 : withinB 3 1 8 = true := rfl
  have hw4 : withinB 4 1 8 = true := rfl
  have hw5 : withinB 5 1 8 = true := rfl
  have hw6 : withinB 6 1 8 = true := rfl
  have hw7 : withinB 7 1 8 = true := rfl
  have hw8 : withinB 8 1 8 = true := rfl
  rcases one8 h with rfl | rfl | rfl | rfl | rfl | rfl | rfl | rfl <;> cases b
  all_goals clear h
  all_goals go_enter Try.func19, Try.ntmps19
  all_goals go_wp2_with (go_at_call 54; refine (rwithin_any _ _ _ _).mono ?_; rintro e w' ⟨rfl, rfl⟩)
  all_goals go_ret
  all_goals exact ⟨rfl, (Below.refl _ _).alloc (Nat.le_refl _) _⟩


set_option maxHeartbeats 4000000 in
theorem rspace_8 (r : Int) (h : 1 ≤ r ∧ r ≤ 8) (b : Bool) (w : World) : Calls Try.prog 19 #[.int .i64 8, .int .i64 r, .bool b] w fun e w' => e = .returned (.int .i64 (spaceI 8 r b)) ∧ Below w.heap.size w w' := by
  have hw1 : withinB 1 1 8 = true := rfl
  have hw2 : withinB 2 1 8 = true := rfl
  have hw3 : withinB 3 1 8 = true := rfl
  have hw4 : withinB 4 1 8 = true := rfl
  have hw5 : withinB 5 1 8 = true := rfl
  have hw6 : withinB 6 1 8 = true := rfl
  have hw7 : withinB 7 1 8 = true := rfl
  have hw8 : withinB 8 1 8 = true := rfl
  rcases one8 h with rfl | rfl | rfl | rfl | rfl | rfl | rfl | rfl <;> cases b
  all_goals clear h
  all_goals go_enter Try.func19, Try.ntmps19
  all_goals go_wp2_with (go_at_call 54; refine (rwithin_any _ _ _ _).mono ?_; rintro e w' ⟨rfl, rfl⟩)
  all_goals go_ret
  all_goals exact ⟨rfl, (Below.refl _ _).alloc (Nat.le_refl _) _⟩


set_option maxHeartbeats 4000000 in
theorem rspace_out (l r : Int) (h : ¬ ((1 ≤ l ∧ l ≤ 8) ∧ (1 ≤ r ∧ r ≤ 8))) (b : Bool) (w : World) : Calls Try.prog 19 #[.int .i64 l, .int .i64 r, .bool b] w fun e w' => e = .returned (.int .i64 (spaceI l r b)) ∧ Below w.heap.size w w' := by
  have H := Lib.hid h
  by_cases h1 : 1 ≤ l ∧ l ≤ 8
  · have w1 := within_yes h1
    have w2 := within_no (show ¬ (1 ≤ r ∧ r ≤ 8) from fun h2 => h ⟨h1, h2⟩)
    clear h h1
    go_enter Try.func19, Try.ntmps19
    go_wp2_with (go_at_call 54; refine (rwithin_any _ _ _ _).mono ?_; rintro e w' ⟨rfl, rfl⟩)
    go_ret
    exact ⟨ret_int (by rw [spaceI, if_neg H.out]), .refl _ _⟩
  · have w1 := within_no h1
    clear h h1
    go_enter Try.func19, Try.ntmps19
    go_wp2_with (go_at_call 54; refine (rwithin_any _ _ _ _).mono ?_; rintro e w' ⟨rfl, rfl⟩)
    go_ret
    exact ⟨ret_int (by rw [spaceI, if_neg H.out]), .refl _ _⟩

end Go.Proofs.Ytkkdopfdoommnaa
