/-
  Layer 20: the law MathlTables: what it computes: true, of any numbers.
-/
import Derived.Test.YtkkdopfdoommnaaM14a
import Derived.Test.YtkkdopfdoommnaaM14b
import Derived.Test.YtkkdopfdoommnaaM14e
import Derived.Test.YtkkdopfdoommnaaM14f
namespace Go.Proofs.Ytkkdopfdoommnaa
open Go.ChangeShapes Go.WideShapes Go.ChangeAt Go.RowKit

theorem mspace_any (l r : Int) (b : Bool) (w : World) : Calls Try.prog 18 #[.int .i64 l, .int .i64 r, .bool b] w fun e w' => e = .returned (.int .i64 (spaceI l r b)) ∧ Below w.heap.size w w' := by
  by_cases h : (1 ≤ l ∧ l ≤ 8) ∧ (1 ≤ r ∧ r ≤ 8)
  · obtain ⟨h1, h2⟩ := h
    rcases one8 h1 with rfl | rfl | rfl | rfl | rfl | rfl | rfl | rfl
    · exact mspace_1 r h2 b w
    · exact mspace_2 r h2 b w
    · exact mspace_3 r h2 b w
    · exact mspace_4 r h2 b w
    · exact mspace_5 r h2 b w
    · exact mspace_6 r h2 b w
    · exact mspace_7 r h2 b w
    · exact mspace_8 r h2 b w
  · exact mspace_out l r h b w


theorem rspace_any (l r : Int) (b : Bool) (w : World) : Calls Try.prog 19 #[.int .i64 l, .int .i64 r, .bool b] w fun e w' => e = .returned (.int .i64 (spaceI l r b)) ∧ Below w.heap.size w w' := by
  by_cases h : (1 ≤ l ∧ l ≤ 8) ∧ (1 ≤ r ∧ r ≤ 8)
  · obtain ⟨h1, h2⟩ := h
    rcases one8 h1 with rfl | rfl | rfl | rfl | rfl | rfl | rfl | rfl
    · exact rspace_1 r h2 b w
    · exact rspace_2 r h2 b w
    · exact rspace_3 r h2 b w
    · exact rspace_4 r h2 b w
    · exact rspace_5 r h2 b w
    · exact rspace_6 r h2 b w
    · exact rspace_7 r h2 b w
    · exact rspace_8 r h2 b w
  · exact rspace_out l r h b w


set_option maxHeartbeats 4000000 in
theorem tables_walk (s q l r : Int) (b : Bool) (w : World) :
    Calls Try.prog 4 #[.int .i64 s, .int .i64 q, .int .i64 l, .int .i64 r, .bool b] w fun e w' => e = .returned (.bool true) ∧ Below w.heap.size w w' := by
  have HL := liveC
  go_enter Try.func4, Try.ntmps4
  go_wp2_with (first | (go_at_call 16; refine (style_any s q _).mono ?_; rintro e w' ⟨rfl, rfl⟩) | (go_at_call 17; refine (rstyle_any s q _).mono ?_; rintro e w' ⟨rfl, rfl⟩) | (go_at_call 18; refine (mspace_any l r b _).mono ?_; rintro e w1 ⟨rfl, hb1⟩) | (go_at_call 19; refine (rspace_any l r b _).mono ?_; rintro e w2 ⟨rfl, hb2⟩) | (go_at_call 20; refine (HL _).mono ?_; rintro e w3 ⟨rfl, hb3⟩))
  go_ret
  exact ⟨rfl, (hb1.trans (hb2.mono hb1.size)).trans (hb3.mono (Nat.le_trans hb1.size hb2.size))⟩
end Go.Proofs.Ytkkdopfdoommnaa
