/-
  The breaks of a column lie in order, each place once (plain); what Cost tells.
  A line's totals by sums of what stands ahead (plain).
-/
import Derived.Test.YtiijpbfkchokaaaGreatL6
import Derived.Test.YtiijpbfkchokaaaGreatW6
namespace Go.Proofs.YtiijpbfkchokaaaGreat
open Go.RowKit
theorem items_pairwise {L : List Nd} {i : Nat} {s : List Nat} (h : Items L i s) : s.Pairwise (· < ·) := by
  induction h with
  | done => exact List.Pairwise.nil
  | step hi hm hs ih =>
    have := behC_pos _ _ _ hm
    refine List.Pairwise.cons (fun x hx => ?_) ih
    have := (hs.lt x hx).1
    omega
end Go.Proofs.YtiijpbfkchokaaaGreat
namespace Go.Proofs.YtiijpbfkchokaaaGreat
open Go.ChangeShapes Go.WideShapes Go.ChangeAt Go.RowKit
/-- what stands ahead of each item, and of the end -/
def sumsP (L : List Nd) (s : List Nat) : List Tt := (List.range (s.length + 1)).map fun j => sumA L (s.take j)
theorem sumsP_len (L : List Nd) (s : List Nat) : (sumsP L s).length = s.length + 1 := by simp [sumsP]
theorem sumsP_get (L : List Nd) (s : List Nat) {j : Nat} (h : j < (sumsP L s).length) : (sumsP L s)[j] = sumA L (s.take j) := by simp [sumsP]
theorem sum_pre {L : List Nd} {s : List Nat} (hc : checkC L = 0) (hs : Items L 0 s) (hr : ∀ n ∈ L, rightB n = true) (hl : L.length ≤ 2000) : ∀ (d t : List Nat) (i : Nat), s = d ++ t → Items L i t → TtB 4400000000000 (sumA L d) := by
  intro d t i e ht
  have h1 := sum_items hc hs hr hs (fun x hx => hx)
  have h2 := sum_items hc hs hr ht (fun x hx => by rw [e]; exact List.mem_append_right _ hx)
  rw [e, sumA_app] at h1
  have h3 := h1.minus h2
  have h4 : ((sumA L d).plus (sumA L t)).minus (sumA L t) = sumA L d := by apply Tt.ext_all <;> simp [Tt.plus, Tt.minus] <;> omega
  rw [h4] at h3
  exact h3.mono (by omega)
theorem items_tail {L : List Nd} {i : Nat} {s : List Nat} (h : Items L i s) : ∀ j, j ≤ s.length → ∃ k, Items L k (s.drop j) := by
  induction h with
  | done => intro j hj; exact ⟨L.length, by rw [show j = 0 by simpa using hj]; exact .done⟩
  | step hi hm hs ih =>
    intro j hj
    cases j with
    | zero => exact ⟨_, .step hi hm hs⟩
    | succ j => exact ih j (by simpa using hj)
theorem sum_take {L : List Nd} {s : List Nat} (hc : checkC L = 0) (hs : Items L 0 s) (hr : ∀ n ∈ L, rightB n = true) (hl : L.length ≤ 2000) (j : Nat) (hj : j ≤ s.length) : TtB 4400000000000 (sumA L (s.take j)) := by
  obtain ⟨k, hk⟩ := items_tail hs j hj
  exact sum_pre hc hs hr hl _ _ k (List.take_append_drop j s).symm hk
/-- place q among items: the first m stand ahead of it -/
structure PosAt (s : List Nat) (q m : Nat) : Prop where
  le : m ≤ s.length
  lt : ∀ j (h : j < s.length), s[j] < q ↔ j < m
theorem pos_at {L : List Nd} {s : List Nat} (hs : Items L 0 s) {m q : Nat} (h : (s ++ [L.length])[m]? = some q) : PosAt s q m := by
  have hp := items_pairwise hs
  have hm : m < (s ++ [L.length]).length := (List.getElem?_eq_some_iff.1 h).1
  rw [List.length_append, List.length_singleton] at hm
  refine ⟨by omega, fun j hj => ?_⟩
  by_cases e : m = s.length
  · have hq : q = L.length := by
      rw [e] at h
      simpa using h.symm
    have := (hs.lt _ (List.getElem_mem hj)).2
    rw [hq]
    omega
  · have hms : m < s.length := by omega
    rw [List.getElem?_append_left hms, List.getElem?_eq_getElem hms] at h
    have hq := Option.some.inj h
    rw [← hq]
    rw [List.pairwise_iff_getElem] at hp
    rcases Nat.lt_trichotomy j m with h1 | h1 | h1
    · have := hp j m hj hms h1; omega
    · subst h1; omega
    · have := hp m j hms hj h1; omega
theorem drop_while_at {L : List Nd} {s : List Nat} (hs : Items L 0 s) {i x : Nat} (h : s[i]? = some x) : s.dropWhile (· < x) = s.drop i := by
  have hp := items_pairwise hs
  have hi : i < s.length := (List.getElem?_eq_some_iff.1 h).1
  rw [List.getElem?_eq_getElem hi] at h
  have hx := Option.some.inj h
  rw [List.pairwise_iff_getElem] at hp
  have h1 : s = s.take i ++ s.drop i := (List.take_append_drop i s).symm
  have h2 : ∀ y ∈ s.take i, y < x := fun y hy => by
    obtain ⟨j, hj, rfl⟩ := List.getElem_of_mem hy
    rw [List.length_take] at hj
    rw [List.getElem_take, ← hx]
    exact hp j i (by omega) hi (by omega)
  have h3 : (s.drop i).dropWhile (· < x) = s.drop i := by
    rw [List.drop_eq_getElem_cons hi, List.dropWhile_cons_of_neg]
    simp [hx]
  conv => lhs; rw [h1]
  rw [List.dropWhile_append_of_pos (by simpa using h2)]
  exact h3
theorem drop_go {L : List Nd} {s : List Nat} {q m i : Nat} (h : PosAt s q m) (hi : i < m) (hf : fallsR (nth L (s.getD i 0)).kind = true) : dropTo L q (s.drop i) = dropTo L q (s.drop (i + 1)) := by
  have hl := h.le
  have hi2 : i < s.length := by omega
  have e : s.getD i 0 = s[i] := by simp [List.getElem?_eq_getElem hi2]
  rw [e] at hf
  rw [List.drop_eq_getElem_cons hi2, dropTo, if_pos ⟨(h.lt i hi2).2 hi, hf⟩]
theorem drop_stop {L : List Nd} {s : List Nat} {q m i : Nat} (h : PosAt s q m) (hn : ¬ (i < m ∧ fallsR (nth L (s.getD i 0)).kind = true)) : dropTo L q (s.drop i) = s.drop i := by
  rcases Nat.lt_or_ge i s.length with hi | hi
  · have e : s.getD i 0 = s[i] := by simp [List.getElem?_eq_getElem hi]
    rw [e] at hn
    rw [List.drop_eq_getElem_cons hi, dropTo, if_neg]
    intro ⟨h1, h2⟩
    exact hn ⟨(h.lt i hi).1 h1, h2⟩
  · rw [List.drop_eq_nil_of_le hi]; rfl
theorem take_while_at {s : List Nat} {q m i : Nat} (h : PosAt s q m) : (s.drop i).takeWhile (· < q) = (s.take m).drop i := by
  have hl := h.le
  have h1 : (s.drop i) = (s.take m).drop i ++ (s.drop m).drop (i - m) := by
    conv => lhs; rw [← List.take_append_drop m s]
    rw [List.drop_append, List.length_take, Nat.min_eq_left hl]
  rw [h1, List.takeWhile_append_of_pos]
  · have : ((s.drop m).drop (i - m)).takeWhile (fun x => decide (x < q)) = [] := by
      rw [List.drop_drop]
      rcases Nat.lt_or_ge (m + (i - m)) s.length with h2 | h2
      · rw [List.drop_eq_getElem_cons h2, List.takeWhile_cons_of_neg]
        have := h.lt _ h2
        simp only [decide_eq_true_eq]
        omega
      · rw [List.drop_eq_nil_of_le h2]; rfl
    rw [this, List.append_nil]
  · intro y hy
    obtain ⟨j, hj, rfl⟩ := List.getElem_of_mem hy
    rw [List.length_drop, List.length_take] at hj
    rw [List.getElem_drop, List.getElem_take]
    have := (h.lt (i + j) (by omega)).2 (by omega)
    simpa using this
/-- where a line's items begin, and whether some fall away -/
def startI (L : List Nd) (s : List Nat) : Option Nat → Nat × Bool
  | none => (0, false)
  | some x => if discB L x then (s.idxOf x + 1, (threeP L x).2.1.isEmpty) else (s.idxOf x, true)
theorem fromP_start {L : List Nd} {s : List Nat} (hs : Items L 0 s) {f : Option Nat} (hf : ∀ x, f = some x → x ∈ s) (q : Nat) : fromP L s f q = if (startI L s f).2 then dropTo L q (s.drop (startI L s f).1) else s.drop (startI L s f).1 := by
  cases f with
  | none => rfl
  | some x =>
    have hx := hf x rfl
    have hi : s[s.idxOf x]? = some x := by
      have h1 : s.idxOf x < s.length := List.idxOf_lt_length_of_mem hx
      rw [List.getElem?_eq_getElem h1, List.getElem_idxOf h1]
    have hd := drop_while_at hs hi
    unfold fromP startI
    simp only
    rw [hd]
    split
    · rw [List.tail_drop]
      cases (threeP L x).2.1 <;> simp
    · rfl
/-- between two places among items -/
def midT (L : List Nd) (s : List Nat) (i m : Nat) : Tt := if i < m then (sumA L (s.take m)).minus (sumA L (s.take i)) else .zero
theorem mid_eq {L : List Nd} {s : List Nat} {i m : Nat} : sumA L ((s.take m).drop i) = midT L s i m := by
  unfold midT
  split
  · rename_i h
    have h1 : s.take m = s.take i ++ (s.take m).drop i := by
      have := List.take_append_drop i (s.take m)
      rw [List.take_take, Nat.min_eq_left (Nat.le_of_lt h)] at this
      exact this.symm
    conv => rhs; arg 1; rw [h1, sumA_app]
    rw [plus_minus]
  · rw [List.drop_eq_nil_of_le (by rw [List.length_take]; omega)]; rfl
theorem lineT_eq {L : List Nd} {P : Pm} {s : List Nat} {f : Option Nat} {q m i : Nat} (h : PosAt s q m) (hi : fromP L s f q = s.drop i) :
    lineT L P s f q = ((((Tt.wide (preN L f)).plus (midT L s i m)).plus (.wide (sufN L q))).plus ((glueT P.left).plus (glueT P.right))) := by
  unfold lineT
  rw [hi, take_while_at h, mid_eq]
  simp only [plus_assoc]
end Go.Proofs.YtiijpbfkchokaaaGreat
