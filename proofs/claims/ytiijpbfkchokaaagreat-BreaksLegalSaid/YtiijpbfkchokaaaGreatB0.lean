/-
  What a break costs: of totals, a height and a penalty: the program's and the document's.
  What a break costs: the program's cost.
  What a break costs: the document's Bad, Priced, price.
  What a break costs: the document's price; bounds of what is measured.
  Badness of great numbers: the program's, in package breaks.
-/
import Derived.Test.YtiijpbfkchokaaaGreatW3
import Derived.Test.YtiijpbfkchokaaaGreatC1
namespace Go.Proofs.YtiijpbfkchokaaaGreat
open Go.ChangeShapes Go.WideShapes Go.ChangeAt Go.RowKit
def badM (x s : Int) : Int := badP (min x 2147483647) (max (-2147483647) (min s 2147483647))
theorem badM_v {x s a b : Int} (ha : a = min x 2147483647) (hb : b = max (-2147483647) (min s 2147483647)) : badP a b = badM x s := by rw [ha, hb]; rfl
theorem ret_i1 {a b : Int} (h : a = b) : Ending.returned (.int .i64 a) = .returned (.int .i64 b) := by rw [h]
theorem badP_range (t s : Int) : 0 ≤ badP t s ∧ badP t s ≤ 10000 ∨ t < 0 := by
  by_cases h : t < 0
  · exact .inr h
  · left
    unfold badP
    split
    · omega
    split
    · omega
    split
    · omega
    have h0 : 0 ≤ badR t s := by
      unfold badR
      split
      · exact Int.ediv_nonneg (by omega) (by omega)
      split
      · exact Int.ediv_nonneg (by omega) (by omega)
      · omega
    obtain ⟨a, b, c, d⟩ := cube_le (badR t s) h0 (by omega)
    omega
theorem badM_range (x s : Int) (h : 0 ≤ x) : 0 ≤ badM x s ∧ badM x s ≤ 10000 := by
  rcases badP_range (min x 2147483647) (max (-2147483647) (min s 2147483647)) with h | h
  · exact h
  · omega
end Go.Proofs.YtiijpbfkchokaaaGreat



namespace Go.Proofs.YtiijpbfkchokaaaGreat
open Go.ChangeShapes Go.WideShapes Go.ChangeAt Go.RowKit
set_option maxHeartbeats 1000000 in
theorem vbad9 (x s : Int) (w : World) (hx : 0 ≤ x) : Calls Tryz.prog 94 #[.int .i64 x, .int .i64 s] w fun e w' => e = .returned (.int .i64 (badM x s)) ∧ Below w.heap.size w w' := by
  go_enter Tryz.func94, Tryz.ntmps94
  go_wp2_with (go_at_call 125; refine (vbadness _ _ _ (by omega) (by omega) (by omega) (by omega)).mono ?_; rintro e w1 ⟨rfl, hb⟩)
  all_goals go_ret
  all_goals exact ⟨ret_i1 (badM_v (by omega) (by omega)), hb⟩
end Go.Proofs.YtiijpbfkchokaaaGreat
