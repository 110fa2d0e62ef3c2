/-
  Layer 20: the tables of both sides: styles of parts, spaces between classes; the law MathlTables: what it computes.
-/
import Derived.Test.YtkkdopfdoommnaaM13
namespace Go.Proofs.Ytkkdopfdoommnaa
open Go.ChangeShapes Go.WideShapes Go.ChangeAt Go.RowKit

theorem rwithin_any (x lo hi : Int) (w : World) : Calls Try.prog 54 #[.int .i64 x, .int .i64 lo, .int .i64 hi] w fun e w' => e = .returned (.bool (withinB x lo hi)) ∧ w = w' := by
  go_enter Try.func54, Try.ntmps54
  go_wp2
  all_goals go_ret
  all_goals exact ⟨by simp [withinB]; omega, rfl⟩
theorem within_no {x lo hi : Int} (h : ¬ (lo ≤ x ∧ x ≤ hi)) : withinB x lo hi = false := by unfold withinB; exact decide_eq_false h
theorem within_yes {x lo hi : Int} (h : lo ≤ x ∧ x ≤ hi) : withinB x lo hi = true := by unfold withinB; exact decide_eq_true h
set_option maxHeartbeats 1000000 in
theorem rstyle_any (s p : Int) (w : World) : Calls Try.prog 17 #[.int .i64 s, .int .i64 p] w fun e w' => e = .returned (.int .i64 (styleI s p)) ∧ w = w' := by
  by_cases h : 0 ≤ s ∧ s ≤ 7
  · have hw := within_yes h
    have H12 := Lib.hid (show ¬ (s < 0 ∨ 7 < s) by omega)
    obtain ⟨h3, h4⟩ := h
    go_enter Try.func17, Try.ntmps17
    go_wp2_with (go_at_call 54; refine (rwithin_any _ _ _ _).mono ?_; rintro e w' ⟨rfl, rfl⟩)
    all_goals go_ret
    all_goals refine ⟨ret_int ?_, rfl⟩
    all_goals rw [styleI, if_neg H12.out]
    all_goals first | (simp_all; done) | (simp_all; omega)
  · have hw := within_no h
    have H12 := Lib.hid (show s < 0 ∨ 7 < s by omega)
    clear h
    go_enter Try.func17, Try.ntmps17
    go_wp2_with (go_at_call 54; refine (rwithin_any _ _ _ _).mono ?_; rintro e w' ⟨rfl, rfl⟩)
    go_ret
    exact ⟨ret_int (by rw [styleI, if_pos H12.out]), rfl⟩

/-- the table of spaces: 0 to 3, or 4, 5, 6 for what is 1, 2, 3, but 0 in scripts -/
def spaceRow : Int → List Int
  | 1 => [0, 1, 5, 6, 0, 0, 0, 4]
  | 2 => [1, 1, 0, 6, 0, 0, 0, 4]
  | 3 => [5, 5, 0, 0, 5, 0, 0, 5]
  | 4 => [6, 6, 0, 0, 6, 0, 0, 6]
  | 5 => [0, 0, 0, 0, 0, 0, 0, 0]
  | 6 => [0, 1, 5, 6, 0, 0, 0, 4]
  | 7 => [4, 4, 0, 4, 4, 4, 4, 4]
  | 8 => [4, 1, 5, 6, 4, 0, 4, 4]
  | _ => []
def spaceI (l r : Int) (b : Bool) : Int :=
  if (1 ≤ l ∧ l ≤ 8) ∧ (1 ≤ r ∧ r ≤ 8) then
    let c := (spaceRow l).getD (r - 1).toNat 0
    if c < 4 then c else if b then 0 else c - 3
  else 0
theorem one8 {r : Int} (h : 1 ≤ r ∧ r ≤ 8) : r = 1 ∨ r = 2 ∨ r = 3 ∨ r = 4 ∨ r = 5 ∨ r = 6 ∨ r = 7 ∨ r = 8 := by omega
end Go.Proofs.Ytkkdopfdoommnaa
