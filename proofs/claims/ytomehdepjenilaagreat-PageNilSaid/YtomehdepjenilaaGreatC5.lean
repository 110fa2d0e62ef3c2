/-
  The document's Along, light, Sum.
-/
import Derived.Test.YtomehdepjenilaaGreatC1
import Derived.Test.YtomehdepjenilaaGreatS7
import Derived.Test.YtomehdepjenilaaGreatK4
import Derived.Deep.CutBlock



namespace Go.Proofs.YtomehdepjenilaaGreat
open Go.ChangeShapes Go.WideShapes Go.ChangeAt Go.RowKit
def badM (x s : Int) : Int := badP (min x 2147483647) (max (-2147483647) (min s 2147483647))
theorem ret_i1 {a b : Int} (h : a = b) : Ending.returned (.int .i64 a) = .returned (.int .i64 b) := by rw [h]
theorem badP_range (t s : Int) : 0 ≤ badP t s ∧ badP t s ≤ 10000 ∨ t < 0 := by
  by_cases h : t < 0
  · exact .inr h
  · left
    unfold badP
    split
    · omega
    split
    · omega
    split
    · omega
    have h0 : 0 ≤ badR t s := by
      unfold badR
      split
      · exact Int.ediv_nonneg (by omega) (by omega)
      split
      · exact Int.ediv_nonneg (by omega) (by omega)
      · omega
    obtain ⟨a, b, c, d⟩ := cube_le (badR t s) h0 (by omega)
    omega
def badT (T : Tt) (h : Int) : Int :=
  if 0 < h - T.nat then (if T.s1 = 0 ∧ T.s2 = 0 ∧ T.s3 = 0 then badM (h - T.nat) T.s0 else 0)
  else if h - T.nat < 0 then (if T.h0 < -(h - T.nat) then 1073741823 else badM (-(h - T.nat)) T.h0) else 0
def costP (T : Tt) (h q : Int) : Int :=
  if badT T h = 1073741823 then 1073741823 else if q ≤ -10000 then q else if badT T h < 10000 then badT T h + q else 100000
end Go.Proofs.YtomehdepjenilaaGreat



