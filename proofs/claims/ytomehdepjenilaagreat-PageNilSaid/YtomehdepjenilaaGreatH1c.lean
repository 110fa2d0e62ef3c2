/-
  The page builder: what holds as long as no insert comes (plain). No statement of the seat stands here.
-/
import Derived.Test.YtomehdepjenilaaGreatC5
import Derived.Test.YtomehdepjenilaaGreatQ13
import Derived.Test.YtomehdepjenilaaGreatH1b
import Derived.Test.YtomehdepjenilaaGreatH16
namespace Go.Proofs.YtomehdepjenilaaGreat
open Go.ChangeShapes Go.WideShapes Go.ChangeAt Go.RowKit
structure Item0 (x : It) : Prop where
  beh : behC x 0 = some x.length
  kind : (hd x).kind = 3 ∨ (hd x).kind = 4 ∨ (hd x).kind = 5 ∨ (hd x).kind = 7 ∨ (hd x).kind = 8 ∨ (hd x).kind = 9 ∨ (hd x).kind = 12 ∨ (hd x).kind = 14
  so : 0 ≤ (hd x).glue.so ∧ (hd x).glue.so ≤ 3
  ho : 0 ≤ (hd x).glue.ho ∧ (hd x).glue.ho ≤ 3
theorem Item0.pos {x : It} (h : Item0 x) : 0 < x.length := (behC_pos _ _ _ h.beh).1
theorem Item0.ne {x : It} (h : Item0 x) : x ≠ [] := fun e => by have := h.pos; rw [e] at this; simp at this
theorem Item0.not13 {x : It} (h : Item0 x) : (hd x).kind ≠ 13 := by
  rcases h.kind with e | e | e | e | e | e | e | e <;> rw [e] <;> decide
theorem Item0.one {n : Nd} (hk : n.kind = 7 ∨ n.kind = 8 ∨ n.kind = 9) (hs : 0 ≤ n.glue.so ∧ n.glue.so ≤ 3) (hh : 0 ≤ n.glue.ho ∧ n.glue.ho ≤ 3) : Item0 [n] := by
  refine ⟨?_, ?_, hs, hh⟩
  · have : behN n.kind 0 = 0 := by rcases hk with e | e | e <;> rw [e] <;> rfl
    unfold behC
    rw [if_pos this]
    rfl
  · show n.kind = 3 ∨ n.kind = 4 ∨ n.kind = 5 ∨ n.kind = 7 ∨ n.kind = 8 ∨ n.kind = 9 ∨ n.kind = 12 ∨ n.kind = 14
    rcases hk with e | e | e <;> rw [e] <;> decide
theorem badG_range (goal : Int) (t : Tt) : 0 ≤ badG goal t ∧ badG goal t ≤ 1073741823 := by
  unfold badG
  dsimp only
  split
  · decide
  · split
    · decide
    · split
      · rename_i h
        rcases badP_range (held31 (wrap64 (goal - t.nat))) (held31 t.s0) with h1 | h1
        · omega
        · unfold held31 at h1; omega
      · split
        · decide
        · rename_i h
          rcases badP_range (held31 (wrap64 (-wrap64 (goal - t.nat)))) (held31 t.h0) with h1 | h1
          · omega
          · unfold held31 at h1; omega
theorem wrap_small {x : Int} (h : -1000000000000 ≤ x ∧ x ≤ 1000000000000) : wrap64 x = x := by
  unfold wrap64
  go_num
structure Inv0 (T0 k : Nat) (σ : St) : Prop where
  waits : ∀ x ∈ σ.waits, Item0 x
  list : ∀ x ∈ σ.s.list, Item0 x.1
  bk : σ.s.bk ≤ σ.s.list.length
  some_ : σ.s.bsome = true → 0 < σ.s.bk
  fresh : σ.s.bsome = false → σ.s.bcost = 1073741823
  body : σ.s.body = true → σ.s.list ≠ []
  pens : σ.s.pens = 0
  box : σ.s.body = σ.s.box
  total : (flatS σ.s).length + (flatI σ.waits).length ≤ T0 + k + (if σ.s.box then 1 else 0)
theorem cost_le {s : Sh} {q : Int} (hp : s.pens = 0) (hq : q < 10000) : costI s q ≤ 1073741823 := by
  have hb := badG_range s.goal s.t
  unfold costI
  split
  · omega
  · split
    · omega
    · split
      · rename_i h1 h2 h3
        have h4 : badI s = badG s.goal s.t := rfl
        rw [h4] at h3
        rw [hp, h4, Int.add_zero, wrap_small (x := badG s.goal s.t + q) (by omega), wrap_small (by omega)]
        omega
      · omega
theorem tried_ok {s : Sh} {q : Int} (hp : s.pens = 0) (hq : q < 10000) (hf : s.bsome = false → s.bcost = 1073741823) (hs : s.bsome = true → 0 < s.bk) (hb : s.bk ≤ s.list.length) (hl : s.list ≠ []) :
    (triedS s q).bsome = true ∧ 0 < (triedS s q).bk ∧ (triedS s q).bk ≤ (triedS s q).list.length ∧ (triedS s q).list = s.list ∧ (triedS s q).body = s.body ∧ (triedS s q).box = s.box ∧ (triedS s q).pens = s.pens := by
  have hlp : 0 < s.list.length := List.length_pos_iff.2 hl
  unfold triedS
  dsimp only
  by_cases h : costI s q ≤ s.bcost ∧ (costI s q < 1073741823 ∨ s.bsome = false)
  · rw [if_pos h]
    exact ⟨rfl, hlp, Nat.le_refl _, rfl, rfl, rfl, rfl⟩
  · rw [if_neg h]
    refine ⟨rfl, ?_, hb, rfl, rfl, rfl, rfl⟩
    cases e : s.bsome
    · exfalso
      exact h ⟨by rw [hf e]; exact cost_le hp hq, .inr e⟩
    · exact hs e
theorem flat_put (s : Sh) (x : It) (t : Int) : (flatS (putS s x t)).length = (flatS s).length + x.length := by simp [flatS, putS]
theorem mem_put {s : Sh} {x : It} {t : Int} {P : It → Prop} (h : ∀ y ∈ s.list, P y.1) (hx : P x) : ∀ y ∈ (putS s x t).list, P y.1 := by
  intro y hy
  rcases List.mem_append.1 hy with hy | hy
  · exact h y hy
  · simp only [List.mem_singleton] at hy
    subst hy
    exact hx
theorem added_eq (s : Sh) (x : It) : (addedS s x).list = (putS s x 0).list ∧ (addedS s x).bk = s.bk ∧ (addedS s x).bsome = s.bsome ∧ (addedS s x).bcost = s.bcost ∧ (addedS s x).body = s.body ∧ (addedS s x).box = s.box ∧ (addedS s x).pens = s.pens := by
  unfold addedS
  split
  · exact ⟨rfl, rfl, rfl, rfl, rfl, rfl, rfl⟩
  · split <;> exact ⟨rfl, rfl, rfl, rfl, rfl, rfl, rfl⟩
theorem deep_eq (s : Sh) (d m : Int) : (deepS s d m).list = s.list ∧ (deepS s d m).bk = s.bk ∧ (deepS s d m).bsome = s.bsome ∧ (deepS s d m).bcost = s.bcost ∧ (deepS s d m).body = s.body ∧ (deepS s d m).box = s.box ∧ (deepS s d m).pens = s.pens := by
  unfold deepS
  split <;> exact ⟨rfl, rfl, rfl, rfl, rfl, rfl, rfl⟩
theorem topped_eq (g : Gr) (s : Sh) (h : Int) : (toppedS g s h).list = (if s.box then s.list else s.list ++ [([topG g.top h], 0)]) ∧ (toppedS g s h).bk = s.bk ∧ (toppedS g s h).bsome = s.bsome ∧ (toppedS g s h).bcost = s.bcost ∧ (toppedS g s h).pens = s.pens := by
  unfold toppedS
  split <;> exact ⟨rfl, rfl, rfl, rfl, rfl⟩
theorem solid_eq (g : Gr) (s : Sh) (x : It) : (solidS g s x).list = (if s.box then s.list else s.list ++ [([topG g.top (hd x).h], 0)]) ++ [(x, 0)] ∧ (solidS g s x).bk = s.bk ∧ (solidS g s x).bsome = s.bsome ∧ (solidS g s x).bcost = s.bcost ∧ (solidS g s x).body = true ∧ (solidS g s x).box = true ∧ (solidS g s x).pens = s.pens := by
  obtain ⟨d1, d2, d3, d4, _, _, d7⟩ := deep_eq (growS (toppedS g s (hd x).h) (hd x).h) (hd x).d g.depth
  obtain ⟨t1, t2, t3, t4, t5⟩ := topped_eq g s (hd x).h
  refine ⟨?_, d2.trans t2, d3.trans t3, d4.trans t4, rfl, rfl, d7.trans t5⟩
  show (deepS _ _ _).list ++ [(x, 0)] = _
  rw [d1]
  show (toppedS g s (hd x).h).list ++ [(x, 0)] = _
  rw [t1]
theorem flat_take (l : List (It × Int)) (k : Nat) : ((l.map (·.1)).flatten).take (placeS l k) = ((l.take k).map (·.1)).flatten ∧ ((l.map (·.1)).flatten).drop (placeS l k) = ((l.drop k).map (·.1)).flatten := by
  have h : (l.map (·.1)).flatten = ((l.take k).map (·.1)).flatten ++ ((l.drop k).map (·.1)).flatten := by
    rw [← List.flatten_append, ← List.map_append, List.take_append_drop]
  unfold placeS
  rw [h]
  exact ⟨List.take_left, List.drop_left⟩
theorem box_none {l : List (It × Int)} (h : ∀ x ∈ l, (hd x.1).kind ≠ 13) : boxP l = (l.map (·.1)).flatten ∧ heldP l = [] := by
  constructor
  · unfold boxP
    induction l with
    | nil => rfl
    | cons x r ih =>
      rw [List.flatMap_cons, if_neg (h x (by simp)), ih fun y hy => h y (by simp [hy])]
      rfl
  · unfold heldP
    induction l with
    | nil => rfl
    | cons x r ih =>
      rw [List.flatMap_cons, ih fun y hy => h y (by simp [hy])]
      unfold heldI1
      rw [if_neg (h x (by simp))]
      rfl
theorem behind_cons (x : It) (r : List It) : behindP (x :: r) = if (hd x).kind = 9 then (({ hd x with pen := 10000 } :: x.drop 1) :: r, (hd x).pen) else (x :: r, 10000) := rfl
theorem behind_flat {l : List It} (h : fullI l) (hne : l ≠ []) : behN9 l.flatten = ((behindP l).1.flatten, (behindP l).2) := by
  cases l with
  | nil => exact absurd rfl hne
  | cons x r =>
    have := h x (by simp)
    cases x with
    | nil => exact absurd rfl this
    | cons y ys =>
      show behN9 (y :: (ys ++ r.flatten)) = _
      rw [behind_cons]
      unfold behN9
      show (if y.kind = 9 then _ else _) = _
      by_cases e : y.kind = 9
      · rw [if_pos e, show (hd (y :: ys)).kind = 9 from e]
        simp [hd]
      · rw [if_neg e, if_neg (show ¬ (hd (y :: ys)).kind = 9 from e)]
        simp
theorem behind_items {l : List It} (h : ∀ x ∈ l, Item0 x) : ∀ x ∈ (behindP l).1, Item0 x := by
  cases l with
  | nil => exact fun x hx => by cases hx
  | cons x r =>
    have hx0 := h x (by simp)
    rw [behind_cons]
    by_cases e : (hd x).kind = 9
    · rw [if_pos e]
      intro y hy
      rcases List.mem_cons.1 hy with rfl | hy
      · have hb : x.length = 1 := by
          cases x with
          | nil => exact absurd rfl hx0.ne
          | cons a s =>
            have := hx0.beh
            unfold behC at this
            rw [if_pos (by rw [show a.kind = 9 from e]; rfl)] at this
            simpa using this.symm
        have hd1 : x.drop 1 = [] := List.drop_eq_nil_of_le (by omega)
        rw [hd1]
        exact Item0.one (.inr (.inr e)) hx0.so hx0.ho
      · exact h y (by simp [hy])
    · rw [if_neg e]
      exact h
theorem behind_len (l : List It) (h : fullI l) : (behindP l).1.flatten.length = l.flatten.length := by
  cases l with
  | nil => rfl
  | cons x r =>
    have := behind_flat h (by simp)
    have h2 := behN9_len (x :: r).flatten
    rw [this] at h2
    exact h2
end Go.Proofs.YtomehdepjenilaaGreat
