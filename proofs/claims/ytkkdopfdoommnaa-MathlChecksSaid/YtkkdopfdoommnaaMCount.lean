/-
  Layer 20 in plain Lean: the document's two passes over the classes come to what the program counts.
-/
import Derived.Test.YtkkdopfdoommnaaMPlain
namespace Go.Proofs.Ytkkdopfdoommnaa
open Go.RowKit

/-! ### The document's two passes over the classes come to the same -/
/-- the first pass at a class c behind prev -/
def one1 (prev : Option Int) (c : Int) : Int :=
  match prev with
  | none => if c = 3 then 1 else c
  | some l => if c = 3 ∧ (l = 3 ∨ l = 2 ∨ l = 4 ∨ l = 5 ∨ l = 7) then 1 else c
def pass1 : Option Int → List Int → List Int
  | _, [] => []
  | prev, c :: r => one1 prev c :: pass1 (some (one1 prev c)) r
def pass2 : List Int → List Int
  | [] => []
  | [c] => [if c = 3 then 1 else c]
  | c :: d :: r => (if c = 3 ∧ (d = 4 ∨ d = 6 ∨ d = 7) then 1 else c) :: pass2 (d :: r)
/-- the second pass but for the last one -/
def pass2' : List Int → List Int
  | [] => []
  | [c] => [c]
  | c :: d :: r => (if c = 3 ∧ (d = 4 ∨ d = 6 ∨ d = 7) then 1 else c) :: pass2' (d :: r)
theorem pass1_snoc : ∀ (xs : List Int) (prev : Option Int) (c : Int), pass1 prev (xs ++ [c]) = pass1 prev xs ++ [one1 ((pass1 prev xs).getLast?.or prev) c]
  | [], prev, c => by simp [pass1]
  | x :: xs, prev, c => by
    rw [List.cons_append, pass1, pass1_snoc xs, pass1, List.cons_append]
    congr 3
    cases h : pass1 (some (one1 prev x)) xs with
    | nil => simp
    | cons y ys =>
      obtain ⟨z, hz⟩ : ∃ z, (y :: ys).getLast? = some z := ⟨_, List.getLast?_eq_some_getLast (by simp)⟩
      rw [List.getLast?_cons_cons, hz]; rfl
theorem pass2'_snoc : ∀ (ys : List Int) (l c : Int), pass2' (ys ++ [l, c]) = (pass2' (ys ++ [l])).dropLast ++ [if l = 3 ∧ (c = 4 ∨ c = 6 ∨ c = 7) then 1 else l, c]
  | [], l, c => by simp [pass2']
  | [y], l, c => by simp [pass2']
  | y :: z :: ys, l, c => by
    have := pass2'_snoc (z :: ys) l c
    simp only [List.cons_append] at this ⊢
    rw [pass2', this]
    rw [pass2']
    have hne : pass2' (z :: (ys ++ [l])) ≠ [] := by cases ys <;> simp [pass2']
    rw [List.dropLast_cons_of_ne_nil hne, List.cons_append]
theorem pass2'_last : ∀ (ys : List Int) (l : Int), (pass2' (ys ++ [l])) = (pass2' (ys ++ [l])).dropLast ++ [l]
  | [], l => by simp [pass2']
  | [y], l => by simp [pass2']
  | y :: z :: ys, l => by
    have := pass2'_last (z :: ys) l
    simp only [List.cons_append] at this ⊢
    rw [pass2']
    have hne : pass2' (z :: (ys ++ [l])) ≠ [] := by cases ys <;> simp [pass2']
    rw [List.dropLast_cons_of_ne_nil hne, List.cons_append, ← this]
theorem pass2_of : ∀ (ys : List Int) (l : Int), pass2 (ys ++ [l]) = (pass2' (ys ++ [l])).dropLast ++ [if l = 3 then 1 else l]
  | [], l => by simp [pass2, pass2']
  | [y], l => by simp [pass2, pass2']
  | y :: z :: ys, l => by
    have := pass2_of (z :: ys) l
    simp only [List.cons_append] at this ⊢
    rw [pass2, this, pass2']
    have hne : pass2' (z :: (ys ++ [l])) ≠ [] := by cases ys <;> simp [pass2']
    rw [List.dropLast_cons_of_ne_nil hne, List.cons_append]
theorem snoc_ind {α : Type} {P : List α → Prop} (h0 : P []) (h1 : ∀ xs x, P xs → P (xs ++ [x])) (xs : List α) : P xs := by
  have : ∀ ys : List α, P ys.reverse := fun ys => by
    induction ys with
    | nil => exact h0
    | cons y ys ih => rw [List.reverse_cons]; exact h1 _ _ ih
  rw [← List.reverse_reverse xs]; exact this _
theorem snoc_of {α : Type} : ∀ (xs : List α), xs ≠ [] → ∃ ys l, xs = ys ++ [l]
  | xs, h => ⟨xs.dropLast, xs.getLast h, (List.dropLast_concat_getLast h).symm⟩
theorem pass1_ne {xs : List Int} {p : Option Int} (h : xs ≠ []) : pass1 p xs ≠ [] := by
  cases xs with
  | nil => exact absurd rfl h
  | cons x xs => simp [pass1]
theorem fold_passes : ∀ (xs : List Int), (∀ c ∈ xs, c ≠ 0) → xs.foldl countStep [] = (pass2' (pass1 none xs)).reverse := by
  refine snoc_ind (fun _ => rfl) fun xs c ih h => ?_
  have hc : c ≠ 0 := h c (by simp)
  rw [List.foldl_append, ih (fun d hd => h d (by simp [hd])), pass1_snoc]
  by_cases hx : xs = []
  · subst hx
    simp [pass1, pass2', countStep, hc, one1]
  · obtain ⟨ys, l, e⟩ := snoc_of _ (pass1_ne (p := none) hx)
    rw [e]
    have hl := pass2'_last ys l
    rw [show (ys ++ [l]).getLast?.or none = some l by simp]
    rw [List.append_assoc, show [l] ++ [one1 (some l) c] = [l, one1 (some l) c] from rfl, pass2'_snoc, hl]
    generalize (pass2' (ys ++ [l])).dropLast = zs
    simp only [List.foldl_cons, List.foldl_nil, List.reverse_append, List.reverse_cons, List.reverse_nil, List.nil_append, List.cons_append, List.dropLast_concat]
    unfold countStep one1
    rw [if_neg hc]
    by_cases hr : c = 4 ∨ c = 6 ∨ c = 7
    · have h3 : ¬ c = 3 := by omega
      by_cases hl3 : l = 3
      · simp [hr, hl3, h3]
      · simp [hr, hl3, h3]
    · by_cases h3 : c = 3
      · subst h3
        by_cases hs : l = 3 ∨ l = 2 ∨ l = 4 ∨ l = 5 ∨ l = 7
        · simp [hs]
        · simp [hs]
      · simp [hr, h3]
theorem fold_filter : ∀ (cs acc : List Int), cs.foldl countStep acc = (cs.filter (· ≠ 0)).foldl countStep acc
  | [], _ => rfl
  | c :: cs, acc => by
    by_cases h : c = 0
    · subst h
      rw [List.foldl_cons, List.filter_cons_of_neg (by simp), show countStep acc 0 = acc from rfl]
      exact fold_filter cs acc
    · rw [List.filter_cons_of_pos (by simpa using h), List.foldl_cons, List.foldl_cons]
      exact fold_filter cs _
theorem classes_passes {ks : List Int} (h : ∀ k ∈ ks, 0 ≤ classI k) : classesP ks = pass2 (pass1 none ((ks.map classI).filter (0 < ·))) := by
  have e : (ks.map classI).filter (0 < ·) = (ks.map classI).filter (· ≠ 0) := by
    apply List.filter_congr
    intro c hc
    obtain ⟨k, hk, rfl⟩ := List.mem_map.1 hc
    have := h k hk
    by_cases h0 : classI k = 0 <;> simp [h0]
    omega
  unfold classesP
  rw [fold_filter, e, fold_passes _ (fun c hc => by simpa using (List.mem_filter.1 hc).2)]
  generalize (ks.map classI).filter (· ≠ 0) = xs
  by_cases hx : xs = []
  · subst hx; rfl
  · obtain ⟨ys, l, e⟩ := snoc_of _ (pass1_ne (p := none) hx)
    rw [e, pass2_of, pass2'_last ys l]
    generalize (pass2' (ys ++ [l])).dropLast = zs
    simp only [List.reverse_append, List.reverse_cons, List.reverse_nil, List.nil_append, List.cons_append, List.dropLast_concat]
    rw [countEnd]
    split <;> simp_all
end Go.Proofs.Ytkkdopfdoommnaa
