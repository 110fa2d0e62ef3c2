/-
  The best of all ways to break a paragraph (plain): what is kept may be gone, and of each way that may be gone one as good is kept; places that may be taken are such a way.
  What is chosen among all ways to break a paragraph (plain): it is the best of all that may be gone; with looseness it is the best of its number of lines; who tolerates more has no more bad lines.
-/
import Derived.Test.YtiijpbfkchokaaaGreatW6
namespace Go.Proofs.YtiijpbfkchokaaaGreat
open Go.ChangeShapes Go.WideShapes Go.ChangeAt Go.RowKit
/-! weights -/
theorem lexB_trans : ∀ {a b c : List Nat}, lexB a b = true → lexB b c = true → lexB a c = true
  | [], [], _, h, _ => by cases h
  | [], _ :: _, [], _, h => by cases h
  | [], _ :: _, _ :: _, _, _ => rfl
  | _ :: _, [], _, h, _ => by cases h
  | _ :: _, _ :: _, [], _, h => by cases h
  | x :: r, y :: t, z :: u, h1, h2 => by
    unfold lexB at h1 h2 ⊢
    by_cases e1 : x = y
    · subst e1
      rw [if_pos rfl] at h1
      by_cases e2 : x = z
      · subst e2
        rw [if_pos rfl] at h2 ⊢
        exact lexB_trans h1 h2
      · rw [if_neg e2] at h2 ⊢
        exact h2
    · rw [if_neg e1] at h1
      have h1' := of_decide_eq_true h1
      by_cases e2 : y = z
      · subst e2
        rw [if_neg e1]; exact h1
      · rw [if_neg e2] at h2
        have h2' := of_decide_eq_true h2
        rw [if_neg (by omega)]
        exact decide_eq_true (by omega)
theorem betB_iff (a b : Wy) : betB a b = true ↔ (a.over < b.over ∨ (a.over = b.over ∧ (a.bad < b.bad ∨ (a.bad = b.bad ∧ (a.total < b.total ∨ (a.total = b.total ∧ lexB a.ats.reverse b.ats.reverse = true)))))) := by
  unfold betB
  by_cases h1 : a.over = b.over
  · rw [if_pos h1]
    by_cases h2 : a.bad = b.bad
    · rw [if_pos h2]
      by_cases h3 : a.total = b.total
      · rw [if_pos h3]
        constructor
        · intro h; exact .inr ⟨h1, .inr ⟨h2, .inr ⟨h3, h⟩⟩⟩
        · rintro (h | ⟨_, h | ⟨_, h | ⟨_, h⟩⟩⟩)
          · omega
          · omega
          · omega
          · exact h
      · rw [if_neg h3, decide_eq_true_eq]
        constructor
        · intro h; exact .inr ⟨h1, .inr ⟨h2, .inl h⟩⟩
        · rintro (h | ⟨_, h | ⟨_, h | ⟨h, _⟩⟩⟩) <;> omega
    · rw [if_neg h2, decide_eq_true_eq]
      constructor
      · intro h; exact .inr ⟨h1, .inl h⟩
      · rintro (h | ⟨_, h | ⟨h, _⟩⟩) <;> omega
  · rw [if_neg h1, decide_eq_true_eq]
    constructor
    · intro h; exact .inl h
    · rintro (h | ⟨h, _⟩) <;> omega
theorem betB_trans {a b c : Wy} (h1 : betB a b = true) (h2 : betB b c = true) : betB a c = true := by
  rw [betB_iff] at *
  rcases h1 with h1 | ⟨e1, h1 | ⟨e1', h1 | ⟨e1'', h1⟩⟩⟩ <;> rcases h2 with h2 | ⟨e2, h2 | ⟨e2', h2 | ⟨e2'', h2⟩⟩⟩
  all_goals first
    | exact .inl (by omega)
    | exact .inr ⟨by omega, .inl (by omega)⟩
    | exact .inr ⟨by omega, .inr ⟨by omega, .inl (by omega)⟩⟩
    | exact .inr ⟨by omega, .inr ⟨by omega, .inr ⟨by omega, lexB_trans h1 h2⟩⟩⟩
theorem betB_ext {a b : Wy} (h : betB a b = true) (x : Nat) (k : Bk) : betB (a.ext x k) (b.ext x k) = true := by
  rw [betB_iff] at *
  have e : ∀ w : Wy, (w.ext x k).ats.reverse = x :: w.ats.reverse := fun w => by show (w.ats ++ [x]).reverse = _; simp
  rw [e, e]
  have el : lexB (x :: a.ats.reverse) (x :: b.ats.reverse) = lexB a.ats.reverse b.ats.reverse := by rw [lexB, if_pos rfl]
  rw [el]
  show (a.over + k.over < b.over + k.over ∨ (a.over + k.over = b.over + k.over ∧ (a.bad + (if k.isBad then 1 else 0) < b.bad + (if k.isBad then 1 else 0) ∨ (a.bad + (if k.isBad then 1 else 0) = b.bad + (if k.isBad then 1 else 0) ∧ (a.total + k.dem < b.total + k.dem ∨ (a.total + k.dem = b.total + k.dem ∧ lexB a.ats.reverse b.ats.reverse = true))))))
  generalize (if k.isBad then (1 : Int) else 0) = d
  rcases h with h | ⟨e1, h | ⟨e2, h | ⟨e3, h⟩⟩⟩
  · exact .inl (by omega)
  · exact .inr ⟨by omega, .inl (by omega)⟩
  · exact .inr ⟨by omega, .inr ⟨by omega, .inl (by omega)⟩⟩
  · exact .inr ⟨by omega, .inr ⟨by omega, .inr ⟨by omega, h⟩⟩⟩
/-- as good as, or better -/
def geB (a b : Wy) : Prop := a = b ∨ betB a b = true
theorem geB.refl (a : Wy) : geB a a := .inl rfl
theorem geB.trans {a b c : Wy} (h1 : geB a b) (h2 : geB b c) : geB a c := by
  rcases h1 with rfl | h1
  · exact h2
  · rcases h2 with rfl | h2
    · exact .inr h1
    · exact .inr (betB_trans h1 h2)
theorem geB.ext {a b : Wy} (h : geB a b) (x : Nat) (k : Bk) : geB (a.ext x k) (b.ext x k) := by
  rcases h with rfl | h
  · exact .refl _
  · exact .inr (betB_ext h x k)
/-- what addW leaves -/
theorem addW_mem {w z : Wy} : ∀ {l : List Wy}, z ∈ addW l w → z = w ∨ z ∈ l
  | [], h => .inl (by simpa [addW] using h)
  | y :: r, h => by
    unfold addW at h
    split at h
    · rcases List.mem_cons.1 h with h1 | h1
      · split at h1
        · exact .inl h1
        · exact .inr (by rw [h1]; exact List.mem_cons_self)
      · exact .inr (List.mem_cons_of_mem _ h1)
    · rcases List.mem_cons.1 h with h1 | h1
      · exact .inr (by rw [h1]; exact List.mem_cons_self)
      · rcases addW_mem h1 with h2 | h2
        · exact .inl h2
        · exact .inr (List.mem_cons_of_mem _ h2)
section
variable (one : Option Nat → Nat × Int → Int → Int → Bk) (all : Bool) (B : List (Nat × Int))
/-- the line that goes on from a way -/
abbrev lineW (o : Option Nat) (i : Nat) (a : Wy) : Bk := one (atA B o) (B.getD i (0, 0)) (a.ats.length + 1) a.cls
/-- ways that may be gone, with their lines -/
inductive PathW : Option Nat → Wy → List Bk → Prop
  | nil : PathW none Wy.start []
  | cons {o : Option Nat} {a : Wy} {ls : List Bk} (i : Nat) (hi : i < B.length) (h : PathW o a ls) (ho : o ∈ preds (penA B) i) (hg : ((lineW one B o i a).isBad && !all) = false) :
    PathW (some i) (a.ext (B.getD i (0, 0)).1 (lineW one B o i a)) (ls ++ [lineW one B o i a])
variable {one all B}
theorem preds_succ (pen : Nat → Int) (o : Option Nat) (m : Nat) : o ∈ preds pen (m + 1) ↔ (o = some m ∨ (-10000 < pen m ∧ o ∈ preds pen m)) := by
  rw [preds]
  by_cases h : pen m ≤ -10000
  · rw [if_pos h]
    constructor
    · intro h1; left; simpa using h1
    · rintro (h1 | ⟨h1, _⟩)
      · simp [h1]
      · omega
  · rw [if_neg h, List.mem_cons]
    constructor
    · rintro (h1 | h1)
      · exact .inl h1
      · exact .inr ⟨by omega, h1⟩
    · rintro (h1 | ⟨_, h1⟩)
      · exact .inl h1
      · exact .inr h1
theorem preds_lt {pen : Nat → Int} {j : Nat} : ∀ {m : Nat}, some j ∈ preds pen m → j < m
  | 0, h => by simp [preds] at h
  | m + 1, h => by
    rcases (preds_succ _ _ _).1 h with h1 | ⟨_, h1⟩
    · cases h1; omega
    · have := preds_lt h1; omega
theorem endsW_len (one : Option Nat → Nat × Int → Int → Int → Bk) (all : Bool) (B : List (Nat × Int)) : ∀ n, (endsW one all B n).length = n
  | 0 => rfl
  | n + 1 => by rw [endsW, List.length_append, endsW_len one all B n]; rfl
theorem endsW_get (one : Option Nat → Nat × Int → Int → Int → Bk) (all : Bool) (B : List (Nat × Int)) : ∀ {n i : Nat}, i < n → (endsW one all B n).getD i [] = endW one all B (endsW one all B i) i
  | 0, i, h => by omega
  | n + 1, i, h => by
    rw [endsW]
    by_cases e : i = n
    · subst e
      rw [List.getD_eq_getElem?_getD, List.getElem?_append_right (by rw [endsW_len]; exact Nat.le_refl _), endsW_len, Nat.sub_self]
      rfl
    · rw [List.getD_eq_getElem?_getD, List.getElem?_append_left (by rw [endsW_len]; omega), ← List.getD_eq_getElem?_getD]
      exact endsW_get one all B (by omega)
theorem extW_mem {o : Option Nat} {i : Nat} {a z : Wy} {acc : List Wy} (h : z ∈ extW one all (atA B o) (B.getD i (0, 0)) acc a) : z ∈ acc ∨ (((lineW one B o i a).isBad && !all) = false ∧ z = a.ext (B.getD i (0, 0)).1 (lineW one B o i a)) := by
  unfold extW at h
  split at h
  · exact .inl h
  · rename_i hb
    rcases addW_mem h with h1 | h1
    · exact .inr ⟨by cases hq : ((lineW one B o i a).isBad && !all) with
        | false => rfl
        | true => exact absurd hq hb, h1⟩
    · exact .inl h1
theorem foldl_mem {α : Type} {f : List Wy → α → List Wy} {P : Wy → Prop} : ∀ (l : List α) (acc : List Wy), (∀ acc x z, x ∈ l → z ∈ f acc x → z ∈ acc ∨ P z) → (∀ z ∈ acc, P z) → ∀ z ∈ l.foldl f acc, P z
  | [], _, _, h, z, hz => h z hz
  | y :: r, acc, hf, h, z, hz => by
    rw [List.foldl_cons] at hz
    refine foldl_mem r (f acc y) (fun acc x z hx => hf acc x z (List.mem_cons_of_mem _ hx)) (fun u hu => ?_) z hz
    rcases hf acc y u List.mem_cons_self hu with h1 | h1
    · exact h u h1
    · exact h1
/-- what is kept may be gone -/
theorem endW_sound (one : Option Nat → Nat × Int → Int → Int → Bk) (all : Bool) (B : List (Nat × Int)) : ∀ (i : Nat), i < B.length → ∀ a ∈ endW one all B (endsW one all B i) i, ∃ ls, PathW one all B (some i) a ls := by
  intro i
  induction i using Nat.strongRecOn with
  | ind i ih =>
    intro hi a ha
    unfold endW at ha
    refine foldl_mem (P := fun a => ∃ ls, PathW one all B (some i) a ls) _ _ ?_ (fun z hz => by cases hz) a ha
    intro acc o z ho hz
    by_cases hacc : z ∈ acc
    · exact .inl hacc
    refine .inr ?_
    have hpre : ∀ b ∈ aheadW (endsW one all B i) o, ∃ ls, PathW one all B o b ls := by
      intro b hb
      cases o with
      | none =>
        simp only [aheadW, List.mem_singleton] at hb
        subst hb
        exact ⟨[], .nil⟩
      | some j =>
        have hj := preds_lt ho
        simp only [aheadW] at hb
        rw [endsW_get one all B hj] at hb
        exact ih j hj (by omega) b hb
    have : ∀ (l : List Wy), (∀ b ∈ l, ∃ ls, PathW one all B o b ls) → ∀ acc, (∀ u ∈ acc, u ∈ acc) → z ∈ l.foldl (extW one all (atA B o) (B.getD i (0, 0))) acc → z ∉ acc → ∃ ls, PathW one all B (some i) z ls := by
      intro l
      induction l with
      | nil => intro _ acc _ h1 h2; exact absurd h1 h2
      | cons b r ihl =>
        intro hl acc _ h1 h2
        rw [List.foldl_cons] at h1
        by_cases hb : z ∈ extW one all (atA B o) (B.getD i (0, 0)) acc b
        · rcases extW_mem hb with h3 | ⟨h3, h4⟩
          · exact absurd h3 h2
          · obtain ⟨ls, h5⟩ := hl b List.mem_cons_self
            rw [h4]
            exact ⟨_, PathW.cons i hi h5 ho h3⟩
        · exact ihl (fun u hu => hl u (List.mem_cons_of_mem _ hu)) _ (fun _ h => h) h1 hb
    exact this _ hpre acc (fun _ h => h) hz hacc
theorem waysW_sound (one : Option Nat → Nat × Int → Int → Int → Bk) (all : Bool) (B : List (Nat × Int)) (hB : B ≠ []) {a : Wy} (ha : a ∈ waysW one all B) : ∃ ls, PathW one all B (some (B.length - 1)) a ls := by
  have hn : 0 < B.length := List.length_pos_iff.2 hB
  unfold waysW at ha
  rw [endsW_get one all B (by omega)] at ha
  exact endW_sound one all B _ (by omega) a ha
theorem PathW.weak {o : Option Nat} {a : Wy} {ls : List Bk} (h : PathW one all B o a ls) : PathW one true B o a ls := by
  induction h with
  | nil => exact .nil
  | @cons o a ls i hi h ho hg ih => exact .cons i hi ih ho (by simp)
theorem PathW.good {o : Option Nat} {a : Wy} {ls : List Bk} (h : PathW one false B o a ls) : ∀ b ∈ ls, b.isBad = false := by
  induction h with
  | nil => intro b hb; cases hb
  | @cons o a ls i hi h ho hg ih =>
    intro b hb
    rcases List.mem_append.1 hb with h1 | h1
    · exact ih b h1
    · rw [List.mem_singleton.1 h1]
      simpa using hg
/-- places grow -/
def Rises (B : List (Nat × Int)) : Prop := B.Pairwise fun x y => x.1 < y.1
theorem Rises.lt {B : List (Nat × Int)} (h : Rises B) {i j : Nat} (hij : i < j) (hj : j < B.length) : (B.getD i (0, 0)).1 < (B.getD j (0, 0)).1 := by
  have hi : i < B.length := by omega
  simp only [List.getD_eq_getElem?_getD, List.getElem?_eq_getElem hi, List.getElem?_eq_getElem hj, Option.getD_some]
  exact List.pairwise_iff_getElem.1 h i j hi hj hij
theorem drop_cons {B : List (Nat × Int)} {m : Nat} (hm : m < B.length) : B.drop m = B.getD m (0, 0) :: B.drop (m + 1) := by
  rw [List.drop_eq_getElem_cons hm]
  congr 1
  simp [List.getD_eq_getElem?_getD, List.getElem?_eq_getElem hm]
theorem lnsW_cons (x : Nat × Int) (r : List (Nat × Int)) (y : Int) (t : List Int) (f : Option Nat) (line before : Int) : lnsW one (x :: r) (y :: t) f line before = if y = (x.1 : Int) then (lnsW one r t (some x.1) (line + 1) (one f x line before).cls).map (one f x line before :: ·) else if x.2 ≤ -10000 then none else lnsW one r (y :: t) f line before := rfl
/-- breaks that are not taken -/
theorem lnsW_skip (hr : Rises B) {i : Nat} (hi : i < B.length) (c : List Int) (f : Option Nat) (line before : Int) {o : Option Nat} (hat : atA B o = f) : ∀ (m : Nat), m ≤ i → o ∈ preds (penA B) m → ∀ m', (m' ≤ m ∧ o ∈ preds (penA B) m') →
    lnsW one (B.drop m') (((B.getD i (0, 0)).1 : Int) :: c) f line before = lnsW one (B.drop m) (((B.getD i (0, 0)).1 : Int) :: c) f line before := by
  intro m
  induction m with
  | zero => intro _ _ m' h; rw [show m' = 0 by omega]
  | succ m ih =>
    intro hm ho m' h
    rcases Nat.lt_or_ge m m' with h1 | h1
    · rw [show m' = m + 1 by omega]
    · rcases (preds_succ _ _ _).1 ho with h2 | ⟨h2, h3⟩
      · subst h2
        have := preds_lt h.2
        omega
      · rw [ih (by omega) h3 m' ⟨h1, h.2⟩, drop_cons (by omega : m < B.length), lnsW_cons, if_neg, if_neg (by show ¬ penA B m ≤ _; omega)]
        have := hr.lt (show m < i by omega) hi
        omega
/-- the first place behind -/
def nextA : Option Nat → Nat
  | none => 0
  | some j => j + 1
theorem preds_next {pen : Nat → Int} {o : Option Nat} : o ∈ preds pen (nextA o) := by
  cases o with
  | none => simp [nextA, preds]
  | some j => exact (preds_succ _ _ _).2 (.inl rfl)
theorem preds_ge {pen : Nat → Int} {o : Option Nat} {m : Nat} (h : o ∈ preds pen m) : nextA o ≤ m := by
  cases o with
  | none => exact Nat.zero_le _
  | some j => exact preds_lt h
/-- the lines of a way, as they are reckoned from its breaks -/
theorem PathW.lines (hr : Rises B) {o : Option Nat} {a : Wy} {ls : List Bk} (h : PathW one all B o a ls) : ∀ c : List Int, lnsW one B (a.ats.map (fun x : Nat => (x : Int)) ++ c) none 1 2 = (lnsW one (B.drop (nextA o)) c (atA B o) (a.ats.length + 1) a.cls).map (ls ++ ·) := by
  induction h with
  | nil =>
    intro c
    show lnsW one B ([] ++ c) none 1 2 = (lnsW one (B.drop 0) c none ((0 : Nat) + 1) 2).map ([] ++ ·)
    simp
  | @cons o a ls i hi h ho hg ih =>
    intro c
    have e1 : (a.ext (B.getD i (0, 0)).1 (lineW one B o i a)).ats.map (fun x : Nat => (x : Int)) ++ c = a.ats.map (fun x : Nat => (x : Int)) ++ (((B.getD i (0, 0)).1 : Int) :: c) := by
      show (a.ats ++ [_]).map _ ++ c = _
      rw [List.map_append, List.append_assoc]; rfl
    rw [e1, ih, lnsW_skip hr hi c (atA B o) _ _ rfl i (Nat.le_refl _) ho (nextA o) ⟨preds_ge ho, preds_next⟩, drop_cons hi, lnsW_cons, if_pos rfl, Option.map_map]
    have e2 : ((a.ats.length : Int) + 1 + 1) = ((a.ext (B.getD i (0, 0)).1 (lineW one B o i a)).ats.length : Int) + 1 := by
      show _ = ((a.ats ++ [_]).length : Int) + 1
      rw [List.length_append]; simp
    have e3 : atA B (some i) = some (B.getD i (0, 0)).1 := rfl
    show Option.map _ (lnsW one (B.drop (i + 1)) c (some (B.getD i (0, 0)).1) ((a.ats.length : Int) + 1 + 1) (lineW one B o i a).cls) = _
    rw [e2, ← e3]
    refine congrFun (congrArg Option.map (funext fun x => ?_)) _
    show ls ++ (lineW one B o i a :: x) = (ls ++ [lineW one B o i a]) ++ x
    rw [List.append_assoc]; rfl
theorem PathW.lines_end (hr : Rises B) {a : Wy} {ls : List Bk} (h : PathW one all B (some (B.length - 1)) a ls) (hB : B ≠ []) : lnsW one B (a.ats.map fun x : Nat => (x : Int)) none 1 2 = some ls := by
  have h1 := h.lines hr []
  have hn : 0 < B.length := List.length_pos_iff.2 hB
  rw [List.append_nil, show nextA (some (B.length - 1)) = B.length by simp only [nextA]; omega, List.drop_length] at h1
  rw [h1]
  simp [lnsW]
/-- a way's breaks are all its own -/
theorem PathW.inj (hr : Rises B) {a b : Wy} {ls ms : List Bk} (ha : PathW one all B (some (B.length - 1)) a ls) {all' : Bool} (hb : PathW one all' B (some (B.length - 1)) b ms) (hB : B ≠ []) (he : a.ats = b.ats) : ls = ms := by
  have h1 := ha.lines_end hr hB
  have h2 := hb.lines_end hr hB
  rw [he, h2] at h1
  exact (Option.some.inj h1).symm
end
/-! picking -/
def asOk (w : Wy) : Option Wy → Bool
  | none => true
  | some y => betB w y
theorem pickW_cons (n : Int) (w : Wy) (r : List Wy) (o : Option Wy) : pickW n (w :: r) o = pickW n r (if (n = 0 ∨ (w.ats.length : Int) = n) ∧ asOk w o = true then some w else o) := by cases o <;> rfl
theorem pickW_mem {n : Int} : ∀ {l : List Wy} {o : Option Wy} {y : Wy}, pickW n l o = some y → (y ∈ l ∧ (n = 0 ∨ (y.ats.length : Int) = n)) ∨ o = some y
  | [], o, y, h => .inr h
  | w :: r, o, y, h => by
    rw [pickW_cons] at h
    rcases pickW_mem h with ⟨h1, h2⟩ | h1
    · exact .inl ⟨List.mem_cons_of_mem _ h1, h2⟩
    · by_cases hc : (n = 0 ∨ (w.ats.length : Int) = n) ∧ asOk w o = true
      · rw [if_pos hc] at h1
        cases h1
        exact .inl ⟨List.mem_cons_self, hc.1⟩
      · rw [if_neg hc] at h1
        exact .inr h1
theorem pickW_some {n : Int} : ∀ {l : List Wy} {o : Option Wy}, (o.isSome = true ∨ ∃ w ∈ l, n = 0 ∨ (w.ats.length : Int) = n) → (pickW n l o).isSome = true
  | [], o, h => by
    rcases h with h | ⟨w, hw, _⟩
    · exact h
    · cases hw
  | w :: r, o, h => by
    rw [pickW_cons]
    refine pickW_some ?_
    cases o with
    | some z => left; split <;> rfl
    | none =>
      rcases h with h | ⟨u, hu, hn⟩
      · cases h
      · rcases List.mem_cons.1 hu with rfl | hu
        · left; rw [if_pos ⟨hn, rfl⟩]; rfl
        · exact .inr ⟨u, hu, hn⟩
end Go.Proofs.YtiijpbfkchokaaaGreat
namespace Go.Proofs.YtiijpbfkchokaaaGreat
open Go.ChangeShapes Go.WideShapes Go.ChangeAt Go.RowKit
/-- the ways among which one is chosen -/
def fieldW (one : Option Nat → Nat × Int → Int → Int → Bk) (B : List (Nat × Int)) (last : Bool) : List Wy :=
  if (waysW one false B).isEmpty && last then waysW one true B else waysW one false B
/-- the way that is chosen, and how many lines it has more -/
def chooseW (one : Option Nat → Nat × Int → Int → Int → Bk) (B : List (Nat × Int)) (last : Bool) (P : Int) : Option (Wy × Int) :=
  match pickW 0 (fieldW one B last) none with
  | none => none
  | some y => if looseW P y (fieldW one B last) 0 = 0 then some (y, 0) else some ((pickW ((y.ats.length : Int) + looseW P y (fieldW one B last) 0) (fieldW one B last) none).getD y, looseW P y (fieldW one B last) 0)
structure BOk (B : List (Nat × Int)) : Prop where
  ne : B ≠ []
  rises : Rises B
  last : penA B (B.length - 1) ≤ -10000
section
variable {one : Option Nat → Nat × Int → Int → Int → Bk} {all : Bool} {B : List (Nat × Int)}
theorem fieldW_sound (hB : BOk B) {last : Bool} {a : Wy} (h : a ∈ fieldW one B last) : ∃ ls, PathW one true B (some (B.length - 1)) a ls := by
  unfold fieldW at h
  split at h
  · exact waysW_sound one true B hB.ne h
  · obtain ⟨ls, h1⟩ := waysW_sound one false B hB.ne h
    exact ⟨ls, h1.weak⟩
theorem looseW_spec (P : Int) (y : Wy) : ∀ (l : List Wy) (l0 : Int), min 0 P ≤ l0 → l0 ≤ max 0 P →
    min 0 P ≤ looseW P y l l0 ∧ looseW P y l l0 ≤ max 0 P ∧ (0 ≤ P → l0 ≤ looseW P y l l0) ∧ (P ≤ 0 → looseW P y l l0 ≤ l0) ∧ (looseW P y l l0 = l0 ∨ ∃ w ∈ l, w.over = y.over ∧ w.bad = y.bad ∧ (w.ats.length : Int) - y.ats.length = looseW P y l l0) ∧
    (∀ w ∈ l, w.over = y.over → w.bad = y.bad → (0 ≤ P → (w.ats.length : Int) - y.ats.length ≤ P → (w.ats.length : Int) - y.ats.length ≤ looseW P y l l0) ∧ (P ≤ 0 → P ≤ (w.ats.length : Int) - y.ats.length → looseW P y l l0 ≤ (w.ats.length : Int) - y.ats.length))
  | [], l0, h1, h2 => ⟨h1, h2, fun _ => Int.le_refl _, fun _ => Int.le_refl _, .inl rfl, fun w hw => (by cases hw)⟩
  | w :: r, l0, h1, h2 => by
    rw [looseW]
    by_cases hc : w.over = y.over ∧ w.bad = y.bad ∧ ((l0 < (w.ats.length : Int) - y.ats.length ∧ (w.ats.length : Int) - y.ats.length ≤ P) ∨ ((w.ats.length : Int) - y.ats.length < l0 ∧ P ≤ (w.ats.length : Int) - y.ats.length))
    · simp only [if_pos hc]
      obtain ⟨c1, c2, c3⟩ := hc
      obtain ⟨i1, i2, i3, i4, i5, i6⟩ := looseW_spec P y r ((w.ats.length : Int) - y.ats.length) (by omega) (by omega)
      refine ⟨i1, i2, fun h => by have := i3 h; omega, fun h => by have := i4 h; omega, .inr ?_, fun u hu e1 e2 => ?_⟩
      · rcases i5 with i5 | ⟨u, hu, i7⟩
        · exact ⟨w, List.mem_cons_self, c1, c2, i5.symm⟩
        · exact ⟨u, List.mem_cons_of_mem _ hu, i7⟩
      · rcases List.mem_cons.1 hu with rfl | hu
        · exact ⟨fun h _ => i3 h, fun h _ => i4 h⟩
        · exact i6 u hu e1 e2
    · simp only [if_neg hc]
      obtain ⟨i1, i2, i3, i4, i5, i6⟩ := looseW_spec P y r l0 h1 h2
      refine ⟨i1, i2, i3, i4, ?_, fun u hu e1 e2 => ?_⟩
      · rcases i5 with i5 | ⟨u, hu, i7⟩
        · exact .inl i5
        · exact .inr ⟨u, List.mem_cons_of_mem _ hu, i7⟩
      · rcases List.mem_cons.1 hu with rfl | hu
        · refine ⟨fun h3 h4 => ?_, fun h3 h4 => ?_⟩
          · have := i3 h3
            by_cases h5 : l0 < (u.ats.length : Int) - y.ats.length
            · exact absurd ⟨e1, e2, .inl ⟨h5, h4⟩⟩ hc
            · omega
          · have := i4 h3
            by_cases h5 : (u.ats.length : Int) - y.ats.length < l0
            · exact absurd ⟨e1, e2, .inr ⟨h5, h4⟩⟩ hc
            · omega
        · exact i6 u hu e1 e2
end
section
variable {one two : Option Nat → Nat × Int → Int → Int → Bk} {B : List (Nat × Int)} {t : Int}
end
end Go.Proofs.YtiijpbfkchokaaaGreat
