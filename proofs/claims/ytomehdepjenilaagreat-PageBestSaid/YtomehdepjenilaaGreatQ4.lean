/-
  Both sides' tests of a node are the same (plain).
-/
import Derived.Test.YtomehdepjenilaaGreatQ3
namespace Go.Proofs.YtomehdepjenilaaGreat
theorem eqNd_iff (a b : Nd) : eqNd a b = true ↔ a = b := by unfold eqNd; simp
theorem good_same (n : Nd) : qgoodB n = rightB n := by
  unfold qgoodB rightB
  cases hw : withinB n.kind 1 17
  · rfl
  have h17 : ∃ k : Nat, n.kind = (k : Int) ∧ 1 ≤ k ∧ k ≤ 17 := ⟨n.kind.toNat, by simp [withinB] at hw; omega, by simp [withinB] at hw; omega, by simp [withinB] at hw; omega⟩
  obtain ⟨k, hn, h1, h2⟩ := h17
  have hk : k = 1 ∨ k = 2 ∨ k = 3 ∨ k = 4 ∨ k = 5 ∨ k = 6 ∨ k = 7 ∨ k = 8 ∨ k = 9 ∨ k = 10 ∨ k = 11 ∨ k = 12 ∨ k = 13 ∨ k = 14 ∨ k = 15 ∨ k = 16 ∨ k = 17 := by omega
  rw [Bool.true_and, Bool.true_and, hn, Int.toNat_natCast]
  clear hw h1 h2
  obtain ⟨kind, font, char, w, h, d, shift, ⟨nat, str, shr, so, ho⟩, sign, order, num, den, pen, sub, text⟩ := n
  simp only at hn
  rcases hk with rfl | rfl | rfl | rfl | rfl | rfl | rfl | rfl | rfl | rfl | rfl | rfl | rfl | rfl | rfl | rfl | rfl
  all_goals subst hn
  · rw [Bool.eq_iff_iff]; simp [qgoodN, goodN, restN, eqNd_iff, Nd.eq_iff, Nd.zero, qglyph1B, glyphB, bareN]; grind
  · rw [Bool.eq_iff_iff]; simp [qgoodN, goodN, restN, eqNd_iff, Nd.eq_iff, Nd.zero, qglyph2B, ligB, glyphB, bareN]; grind
  · rw [Bool.eq_iff_iff]; simp [qgoodN, goodN, restN, eqNd_iff, Nd.eq_iff, Nd.zero, qruleB, ruleB, bareN]; grind
  · rw [Bool.eq_iff_iff]; simp [qgoodN, goodN, restN, eqNd_iff, Nd.eq_iff, Nd.zero, qboxB, boxB, dims4, dims3, bareN]; grind
  · rw [Bool.eq_iff_iff]; simp [qgoodN, goodN, restN, eqNd_iff, Nd.eq_iff, Nd.zero, qboxB, boxB, dims4, dims3, bareN]; grind
  · rw [Bool.eq_iff_iff]; simp [qgoodN, goodN, restN, eqNd_iff, Nd.eq_iff, Nd.zero]
  · rw [Bool.eq_iff_iff]; simp [qgoodN, goodN, restN, eqNd_iff, Nd.eq_iff, Nd.zero, skipB, Gl.zero]; try grind
  · rw [Bool.eq_iff_iff]; simp [qgoodN, goodN, restN, eqNd_iff, Nd.eq_iff, Nd.zero, kernB, dims1]; try grind
  · rw [Bool.eq_iff_iff]; simp [qgoodN, goodN, restN, eqNd_iff, Nd.eq_iff, Nd.zero, penB, farB]; try grind
  · rw [Bool.eq_iff_iff]; simp [qgoodN, goodN, restN, eqNd_iff, Nd.eq_iff, Nd.zero]
  · rw [Bool.eq_iff_iff]; simp [qgoodN, goodN, restN, eqNd_iff, Nd.eq_iff, Nd.zero]
  · rw [Bool.eq_iff_iff]; simp [qgoodN, goodN, restN, eqNd_iff, Nd.eq_iff, Nd.zero, textB]; try grind
  · rw [Bool.eq_iff_iff]; simp [qgoodN, goodN, restN, eqNd_iff, Nd.eq_iff, Nd.zero, insB, dims2, farB, Gl.zero]; try grind
  · rw [Bool.eq_iff_iff]; simp [qgoodN, goodN, restN, eqNd_iff, Nd.eq_iff, Nd.zero, textB]; try grind
  · rw [Bool.eq_iff_iff]; simp [qgoodN, goodN, restN, eqNd_iff, Nd.eq_iff, Nd.zero, dims1]; try grind
  · rw [Bool.eq_iff_iff]; simp [qgoodN, goodN, restN, eqNd_iff, Nd.eq_iff, Nd.zero, dims1]; try grind
  · rw [Bool.eq_iff_iff]; simp [qgoodN, goodN, restN, eqNd_iff, Nd.eq_iff, Nd.zero]
end Go.Proofs.YtomehdepjenilaaGreat
