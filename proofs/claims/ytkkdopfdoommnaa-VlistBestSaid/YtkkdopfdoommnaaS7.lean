/-
  The document's Sum and Sized against the meter (plain).
-/
import Derived.Test.YtkkdopfdoommnaaS6
namespace Go.Proofs.Ytkkdopfdoommnaa
open Go.ChangeShapes Go.WideShapes Go.ChangeAt Go.RowKit
def alongN (n : Nd) : Int := if solidK n.kind then n.h + n.d else if n.kind == 8 then n.w else if n.kind == 7 then n.glue.nat else 0
def sumN (n : Nd) (T : Tt) : Tt := let T1 : Tt := { T with nat := T.nat + alongN n }; if n.kind == 7 then T1.glue n.glue else T1
def sumP (L : List Nd) (s : List Nat) : Tt := s.foldl (fun T i => sumN (nth L i) T) .zero
theorem glue_nat (T : Tt) (g : Gl) (a : Int) : ({ T with nat := a } : Tt).glue g = { T.glue g with nat := a } := by
  simp only [Tt.glue]
  generalize g.so.toNat = i
  generalize g.ho.toNat = j
  match i with
  | 0 | 1 | 2 | _ + 3 => match j with | 0 | 1 | 2 | _ + 3 => rfl
/-- the meter's totals with its depth -/
def Mt.all (m : Mt) : Tt := { m.t with nat := m.t.nat + m.d }
theorem light_not {k : Int} (h : lightK k = true) : solidK k = false ∧ (k == 8) = false ∧ (k == 7) = false := by
  simp [lightK] at h
  simp [solidK]
  omega
theorem all_pass (n : Nd) (m : Mt) : (passM n m).all = sumN n m.all := by
  unfold passM sumN alongN
  cases hl : lightK n.kind
  · cases hs : solidK n.kind
    · cases h8 : (n.kind == 8)
      · cases h7 : (n.kind == 7)
        · simp [Mt.all]
        · simp only [Mt.all, if_true, Bool.false_eq_true, if_false, glue_nat, Int.add_zero]
      · have h7 : (n.kind == 7) = false := by have : n.kind = 8 := by simpa using h8
                                              rw [this]; rfl
        simp [Mt.all, h7]
    · have h7 : (n.kind == 7) = false := by simp [solidK] at hs; simp; omega
      simp [Mt.all, h7]; omega
  · obtain ⟨h1, h2, h3⟩ := light_not hl
    simp [Mt.all, h1, h2, h3]
theorem sum_all (L : List Nd) (depth : Int) (s : List Nat) : sumP L s = (foldM L depth s).all := by
  unfold sumP foldM
  suffices h : ∀ m : Mt, s.foldl (fun T i => sumN (nth L i) T) m.all = (s.foldl (fun m i => passM (nth L i) m) m).all by
    exact h ⟨.zero, 0, depth⟩
  induction s with
  | nil => intro m; rfl
  | cons a r ih => intro m; rw [List.foldl_cons, List.foldl_cons, ← all_pass, ih]
theorem sumP_snoc (L : List Nd) (s : List Nat) (x : Nat) : sumP L (s ++ [x]) = sumN (nth L x) (sumP L s) := by simp [sumP]
/-- the depth that is left: behind the items from the last one on that leaves none -/
def lastD (L : List Nd) : List Nat → Int
  | [] => 0
  | x :: r => if lightK (nth L x).kind then lastD L r else if solidK (nth L x).kind then (nth L x).d else 0
theorem fold_d (L : List Nd) (depth : Int) (s : List Nat) : (foldM L depth s).d = lastD L s.reverse := by
  suffices h : ∀ r : List Nat, (foldM L depth r.reverse).d = lastD L r by simpa using h s.reverse
  intro r
  induction r with
  | nil => rfl
  | cons x r ih =>
    rw [List.reverse_cons, foldM_snoc]
    unfold lastD passM
    split
    · exact ih
    · split
      · rfl
      · split
        · rfl
        · split <;> rfl
theorem behC_take : ∀ (l : List Nd) (n : Int) (m k : Nat), behC l n = some m → m ≤ k → behC (l.take k) n = some m
  | [], _, _, _, h, _ => by cases h
  | x :: l, n, m, k, h, hk => by
    have hm := behC_pos _ _ _ h
    obtain ⟨k', rfl⟩ : ∃ k', k = k' + 1 := ⟨k - 1, by omega⟩
    rw [List.take_succ_cons]
    unfold behC at h ⊢
    split
    · rename_i h0; rw [if_pos h0] at h; exact h
    · rename_i h0
      rw [if_neg h0] at h
      obtain ⟨q, hq, rfl⟩ := Option.map_eq_some_iff.1 h
      rw [behC_take l _ q k' hq (by omega)]
      rfl
theorem items_take {L : List Nd} {i t : Nat} {s : List Nat} (h : Items L i s) (ht : t ∈ s ∨ t = L.length) : Items (L.take t) i (aheadP s t) := by
  induction h with
  | done =>
    obtain rfl : t = L.length := by
      rcases ht with h | h
      · cases h
      · exact h
    rw [List.take_length]
    exact .done
  | step hi hm hs ih =>
    rename_i i m r
    have hp := behC_pos _ _ _ hm
    rw [List.length_drop] at hp
    unfold aheadP
    rw [List.takeWhile_cons]
    by_cases e : i = t
    · subst e
      rw [if_neg (by simp)]
      have := Items.done (L := L.take i)
      rw [List.length_take, Nat.min_eq_left (by omega)] at this
      exact this
    · rw [if_pos (by simpa using e)]
      have ht2 : t ∈ r ∨ t = L.length := by
        rcases ht with h | h
        · rcases List.mem_cons.1 h with h | h
          · exact absurd h.symm e
          · exact .inl h
        · exact .inr h
      have hit : i + m ≤ t := by
        rcases ht2 with h | h
        · exact (hs.lt t h).1
        · omega
      refine .step (by rw [List.length_take]; omega) ?_ (ih ht2)
      rw [List.drop_take]
      exact behC_take _ _ _ _ hm (by omega)
theorem nth_take {L : List Nd} {t i : Nat} (h : i < t) : nth (L.take t) i = nth L i := by unfold nth; simp [h]
theorem sumP_congr {L M : List Nd} {s : List Nat} (h : ∀ x ∈ s, nth L x = nth M x) : sumP L s = sumP M s := by
  unfold sumP
  generalize Tt.zero = T
  induction s generalizing T with
  | nil => rfl
  | cons a r ih => rw [List.foldl_cons, List.foldl_cons, h a List.mem_cons_self, ih (fun x hx => h x (List.mem_cons_of_mem _ hx))]
/-- what Sized makes of a sum and a depth -/
def capD (T : Tt) (d depth : Int) : Tt × Int := if depth < d then ({ T with nat := T.nat - d + (d - depth) }, depth) else ({ T with nat := T.nat - d }, d)
theorem meas_sized (L : List Nd) (s : List Nat) (t : Nat) (depth : Int) : measP L s t depth = capD (sumP L (aheadP s t)) (lastD L (aheadP s t).reverse) depth := by
  unfold measP capD sizeM
  rw [sum_all L depth, ← fold_d L depth, foldM_depth]
  simp only [Mt.all]
  have : ∀ a b : Int, a + b - b = a := by omega
  split
  · rw [this]
  · rw [this]
end Go.Proofs.Ytkkdopfdoommnaa
