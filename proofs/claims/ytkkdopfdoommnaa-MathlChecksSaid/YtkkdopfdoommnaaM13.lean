/-
  Layer 20: the law MathlStyles: what it computes: true, of any two numbers.
-/
import Derived.Test.YtkkdopfdoommnaaM12
namespace Go.Proofs.Ytkkdopfdoommnaa
open Go.ChangeShapes Go.WideShapes Go.ChangeAt Go.RowKit

theorem tmod_bounds (a k : Int) (hk : 0 < k) : -(k - 1) ≤ a.tmod k ∧ a.tmod k ≤ k - 1 := by
  rcases Int.le_total 0 a with h | h
  · rw [Int.tmod_eq_emod_of_nonneg h]
    have := Int.emod_nonneg a (show k ≠ 0 by omega)
    have := Int.emod_lt_of_pos a hk
    omega
  · have e : a.tmod k = -((-a).tmod k) := by rw [Int.neg_tmod, Int.neg_neg]
    rw [e, Int.tmod_eq_emod_of_nonneg (show 0 ≤ -a by omega)]
    have := Int.emod_nonneg (-a) (show k ≠ 0 by omega)
    have := Int.emod_lt_of_pos (-a) hk
    omega
theorem range8 {s : Int} (h1 : 0 ≤ s) (h2 : s ≤ 7) : s = 0 ∨ s = 1 ∨ s = 2 ∨ s = 3 ∨ s = 4 ∨ s = 5 ∨ s = 6 ∨ s = 7 := by omega
theorem range5 {q : Int} (h1 : 1 ≤ q) (h2 : q ≤ 5) : q = 1 ∨ q = 2 ∨ q = 3 ∨ q = 4 ∨ q = 5 := by omega
def LiveC : Prop := ∀ w : World, Calls Try.prog 20 #[] w fun e w' => e = .returned (.bool true) ∧ Below w.heap.size w w'
theorem liveC : LiveC := live_any
set_option maxRecDepth 100000 in
set_option maxHeartbeats 8000000 in
theorem styles_walk (a0 a1 : Int) (w : World) :
    Calls Try.prog 6 #[.int .i64 a0, .int .i64 a1] w fun e w' => e = .returned (.bool true) ∧ Below w.heap.size w w' := by
  obtain ⟨t1, t2⟩ := tmod_bounds a0 8 (by decide)
  obtain ⟨t3, t4⟩ := tmod_bounds a1 5 (by decide)
  simp only [Int.reduceSub, Int.reduceNeg] at t1 t2 t3 t4
  go_enter Try.func6, Try.ntmps6
  go_wp2_with fail
  rw [show (a0.tmod 8 + 8) % 8 = a0.tmod 8 % 8 from by omega]
  have s1 : 0 ≤ a0.tmod 8 % 8 := by omega
  have s2 : a0.tmod 8 % 8 ≤ 7 := by omega
  have q1 : 1 ≤ 1 + a1.tmod 5 % 5 := by omega
  have q2 : 1 + a1.tmod 5 % 5 ≤ 5 := by omega
  generalize a0.tmod 8 % 8 = s at s1 s2 ⊢
  generalize 1 + a1.tmod 5 % 5 = q at q1 q2 ⊢
  refine (style_any s q w).mono ?_
  rintro e w' ⟨rfl, rfl⟩
  have HL := liveC
  rcases range8 s1 s2 with rfl | rfl | rfl | rfl | rfl | rfl | rfl | rfl <;> rcases range5 q1 q2 with rfl | rfl | rfl | rfl | rfl
  all_goals clear s1 s2 q1 q2
  all_goals simp only [show styleI 0 1 = 4 from rfl, show styleI 0 2 = 5 from rfl, show styleI 0 3 = 2 from rfl, show styleI 0 4 = 3 from rfl, show styleI 0 5 = 1 from rfl,
    show styleI 1 1 = 5 from rfl, show styleI 1 2 = 5 from rfl, show styleI 1 3 = 3 from rfl, show styleI 1 4 = 3 from rfl, show styleI 1 5 = 1 from rfl,
    show styleI 2 1 = 4 from rfl, show styleI 2 2 = 5 from rfl, show styleI 2 3 = 4 from rfl, show styleI 2 4 = 5 from rfl, show styleI 2 5 = 3 from rfl,
    show styleI 3 1 = 5 from rfl, show styleI 3 2 = 5 from rfl, show styleI 3 3 = 5 from rfl, show styleI 3 4 = 5 from rfl, show styleI 3 5 = 3 from rfl,
    show styleI 4 1 = 6 from rfl, show styleI 4 2 = 7 from rfl, show styleI 4 3 = 6 from rfl, show styleI 4 4 = 7 from rfl, show styleI 4 5 = 5 from rfl,
    show styleI 5 1 = 7 from rfl, show styleI 5 2 = 7 from rfl, show styleI 5 3 = 7 from rfl, show styleI 5 4 = 7 from rfl, show styleI 5 5 = 5 from rfl,
    show styleI 6 1 = 6 from rfl, show styleI 6 2 = 7 from rfl, show styleI 6 3 = 6 from rfl, show styleI 6 4 = 7 from rfl, show styleI 6 5 = 7 from rfl,
    show styleI 7 1 = 7 from rfl, show styleI 7 2 = 7 from rfl, show styleI 7 3 = 7 from rfl, show styleI 7 4 = 7 from rfl, show styleI 7 5 = 7 from rfl]
  all_goals go_wp2_with (go_at_call 20; refine (HL _).mono ?_; rintro e w3 ⟨rfl, hb3⟩)
  all_goals go_ret
  all_goals exact ⟨rfl, hb3⟩
end Go.Proofs.Ytkkdopfdoommnaa
