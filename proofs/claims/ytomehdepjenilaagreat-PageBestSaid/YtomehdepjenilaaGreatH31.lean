/-
  The page builder: what holds as long as no insert comes (plain). No statement of the seat stands here.
-/
import Derived.Test.YtomehdepjenilaaGreatQ6
import Derived.Test.YtomehdepjenilaaGreatS7
import Derived.Test.YtomehdepjenilaaGreatW2
import Derived.Test.YtomehdepjenilaaGreatC5
import Derived.Test.YtomehdepjenilaaGreatV10
import Derived.Test.YtomehdepjenilaaGreatH16
import Derived.Test.YtomehdepjenilaaGreatH23
namespace Go.Proofs.YtomehdepjenilaaGreat
open Go.ChangeShapes Go.WideShapes Go.ChangeAt Go.RowKit
structure Item0 (x : It) : Prop where
  beh : behC x 0 = some x.length
  kind : (hd x).kind = 3 ∨ (hd x).kind = 4 ∨ (hd x).kind = 5 ∨ (hd x).kind = 7 ∨ (hd x).kind = 8 ∨ (hd x).kind = 9 ∨ (hd x).kind = 12 ∨ (hd x).kind = 14
  so : 0 ≤ (hd x).glue.so ∧ (hd x).glue.so ≤ 3
  ho : 0 ≤ (hd x).glue.ho ∧ (hd x).glue.ho ≤ 3
theorem Item0.pos {x : It} (h : Item0 x) : 0 < x.length := (behC_pos _ _ _ h.beh).1
theorem Item0.ne {x : It} (h : Item0 x) : x ≠ [] := fun e => by have := h.pos; rw [e] at this; simp at this
theorem Item0.not13 {x : It} (h : Item0 x) : (hd x).kind ≠ 13 := by
  rcases h.kind with e | e | e | e | e | e | e | e <;> rw [e] <;> decide
theorem Item0.one {n : Nd} (hk : n.kind = 7 ∨ n.kind = 8 ∨ n.kind = 9) (hs : 0 ≤ n.glue.so ∧ n.glue.so ≤ 3) (hh : 0 ≤ n.glue.ho ∧ n.glue.ho ≤ 3) : Item0 [n] := by
  refine ⟨?_, ?_, hs, hh⟩
  · have : behN n.kind 0 = 0 := by rcases hk with e | e | e <;> rw [e] <;> rfl
    unfold behC
    rw [if_pos this]
    rfl
  · show n.kind = 3 ∨ n.kind = 4 ∨ n.kind = 5 ∨ n.kind = 7 ∨ n.kind = 8 ∨ n.kind = 9 ∨ n.kind = 12 ∨ n.kind = 14
    rcases hk with e | e | e <;> rw [e] <;> decide
theorem badG_range (goal : Int) (t : Tt) : 0 ≤ badG goal t ∧ badG goal t ≤ 1073741823 := by
  unfold badG
  dsimp only
  split
  · decide
  · split
    · decide
    · split
      · rename_i h
        rcases badP_range (held31 (wrap64 (goal - t.nat))) (held31 t.s0) with h1 | h1
        · omega
        · unfold held31 at h1; omega
      · split
        · decide
        · rename_i h
          rcases badP_range (held31 (wrap64 (-wrap64 (goal - t.nat)))) (held31 t.h0) with h1 | h1
          · omega
          · unfold held31 at h1; omega
theorem wrap_small {x : Int} (h : -1000000000000 ≤ x ∧ x ≤ 1000000000000) : wrap64 x = x := by
  unfold wrap64
  go_num
structure Inv0 (T0 k : Nat) (σ : St) : Prop where
  waits : ∀ x ∈ σ.waits, Item0 x
  list : ∀ x ∈ σ.s.list, Item0 x.1
  bk : σ.s.bk ≤ σ.s.list.length
  some_ : σ.s.bsome = true → 0 < σ.s.bk
  fresh : σ.s.bsome = false → σ.s.bcost = 1073741823
  body : σ.s.body = true → σ.s.list ≠ []
  pens : σ.s.pens = 0
  box : σ.s.body = σ.s.box
  total : (flatS σ.s).length + (flatI σ.waits).length ≤ T0 + k + (if σ.s.box then 1 else 0)
theorem cost_le {s : Sh} {q : Int} (hp : s.pens = 0) (hq : q < 10000) : costI s q ≤ 1073741823 := by
  have hb := badG_range s.goal s.t
  unfold costI
  split
  · omega
  · split
    · omega
    · split
      · rename_i h1 h2 h3
        have h4 : badI s = badG s.goal s.t := rfl
        rw [h4] at h3
        rw [hp, h4, Int.add_zero, wrap_small (x := badG s.goal s.t + q) (by omega), wrap_small (by omega)]
        omega
      · omega
theorem tried_ok {s : Sh} {q : Int} (hp : s.pens = 0) (hq : q < 10000) (hf : s.bsome = false → s.bcost = 1073741823) (hs : s.bsome = true → 0 < s.bk) (hb : s.bk ≤ s.list.length) (hl : s.list ≠ []) :
    (triedS s q).bsome = true ∧ 0 < (triedS s q).bk ∧ (triedS s q).bk ≤ (triedS s q).list.length ∧ (triedS s q).list = s.list ∧ (triedS s q).body = s.body ∧ (triedS s q).box = s.box ∧ (triedS s q).pens = s.pens := by
  have hlp : 0 < s.list.length := List.length_pos_iff.2 hl
  unfold triedS
  dsimp only
  by_cases h : costI s q ≤ s.bcost ∧ (costI s q < 1073741823 ∨ s.bsome = false)
  · rw [if_pos h]
    exact ⟨rfl, hlp, Nat.le_refl _, rfl, rfl, rfl, rfl⟩
  · rw [if_neg h]
    refine ⟨rfl, ?_, hb, rfl, rfl, rfl, rfl⟩
    cases e : s.bsome
    · exfalso
      exact h ⟨by rw [hf e]; exact cost_le hp hq, .inr e⟩
    · exact hs e
theorem flat_put (s : Sh) (x : It) (t : Int) : (flatS (putS s x t)).length = (flatS s).length + x.length := by simp [flatS, putS]
theorem mem_put {s : Sh} {x : It} {t : Int} {P : It → Prop} (h : ∀ y ∈ s.list, P y.1) (hx : P x) : ∀ y ∈ (putS s x t).list, P y.1 := by
  intro y hy
  rcases List.mem_append.1 hy with hy | hy
  · exact h y hy
  · simp only [List.mem_singleton] at hy
    subst hy
    exact hx
theorem added_eq (s : Sh) (x : It) : (addedS s x).list = (putS s x 0).list ∧ (addedS s x).bk = s.bk ∧ (addedS s x).bsome = s.bsome ∧ (addedS s x).bcost = s.bcost ∧ (addedS s x).body = s.body ∧ (addedS s x).box = s.box ∧ (addedS s x).pens = s.pens := by
  unfold addedS
  split
  · exact ⟨rfl, rfl, rfl, rfl, rfl, rfl, rfl⟩
  · split <;> exact ⟨rfl, rfl, rfl, rfl, rfl, rfl, rfl⟩
theorem deep_eq (s : Sh) (d m : Int) : (deepS s d m).list = s.list ∧ (deepS s d m).bk = s.bk ∧ (deepS s d m).bsome = s.bsome ∧ (deepS s d m).bcost = s.bcost ∧ (deepS s d m).body = s.body ∧ (deepS s d m).box = s.box ∧ (deepS s d m).pens = s.pens := by
  unfold deepS
  split <;> exact ⟨rfl, rfl, rfl, rfl, rfl, rfl, rfl⟩
theorem topped_eq (g : Gr) (s : Sh) (h : Int) : (toppedS g s h).list = (if s.box then s.list else s.list ++ [([topG g.top h], 0)]) ∧ (toppedS g s h).bk = s.bk ∧ (toppedS g s h).bsome = s.bsome ∧ (toppedS g s h).bcost = s.bcost ∧ (toppedS g s h).pens = s.pens := by
  unfold toppedS
  split <;> exact ⟨rfl, rfl, rfl, rfl, rfl⟩
theorem solid_eq (g : Gr) (s : Sh) (x : It) : (solidS g s x).list = (if s.box then s.list else s.list ++ [([topG g.top (hd x).h], 0)]) ++ [(x, 0)] ∧ (solidS g s x).bk = s.bk ∧ (solidS g s x).bsome = s.bsome ∧ (solidS g s x).bcost = s.bcost ∧ (solidS g s x).body = true ∧ (solidS g s x).box = true ∧ (solidS g s x).pens = s.pens := by
  obtain ⟨d1, d2, d3, d4, _, _, d7⟩ := deep_eq (growS (toppedS g s (hd x).h) (hd x).h) (hd x).d g.depth
  obtain ⟨t1, t2, t3, t4, t5⟩ := topped_eq g s (hd x).h
  refine ⟨?_, d2.trans t2, d3.trans t3, d4.trans t4, rfl, rfl, d7.trans t5⟩
  show (deepS _ _ _).list ++ [(x, 0)] = _
  rw [d1]
  show (toppedS g s (hd x).h).list ++ [(x, 0)] = _
  rw [t1]
theorem flat_take (l : List (It × Int)) (k : Nat) : ((l.map (·.1)).flatten).take (placeS l k) = ((l.take k).map (·.1)).flatten ∧ ((l.map (·.1)).flatten).drop (placeS l k) = ((l.drop k).map (·.1)).flatten := by
  have h : (l.map (·.1)).flatten = ((l.take k).map (·.1)).flatten ++ ((l.drop k).map (·.1)).flatten := by
    rw [← List.flatten_append, ← List.map_append, List.take_append_drop]
  unfold placeS
  rw [h]
  exact ⟨List.take_left, List.drop_left⟩
theorem box_none {l : List (It × Int)} (h : ∀ x ∈ l, (hd x.1).kind ≠ 13) : boxP l = (l.map (·.1)).flatten ∧ heldP l = [] := by
  constructor
  · unfold boxP
    induction l with
    | nil => rfl
    | cons x r ih =>
      rw [List.flatMap_cons, if_neg (h x (by simp)), ih fun y hy => h y (by simp [hy])]
      rfl
  · unfold heldP
    induction l with
    | nil => rfl
    | cons x r ih =>
      rw [List.flatMap_cons, ih fun y hy => h y (by simp [hy])]
      unfold heldI1
      rw [if_neg (h x (by simp))]
      rfl
theorem behind_cons (x : It) (r : List It) : behindP (x :: r) = if (hd x).kind = 9 then (({ hd x with pen := 10000 } :: x.drop 1) :: r, (hd x).pen) else (x :: r, 10000) := rfl
theorem behind_flat {l : List It} (h : fullI l) (hne : l ≠ []) : behN9 l.flatten = ((behindP l).1.flatten, (behindP l).2) := by
  cases l with
  | nil => exact absurd rfl hne
  | cons x r =>
    have := h x (by simp)
    cases x with
    | nil => exact absurd rfl this
    | cons y ys =>
      show behN9 (y :: (ys ++ r.flatten)) = _
      rw [behind_cons]
      unfold behN9
      show (if y.kind = 9 then _ else _) = _
      by_cases e : y.kind = 9
      · rw [if_pos e, show (hd (y :: ys)).kind = 9 from e]
        simp [hd]
      · rw [if_neg e, if_neg (show ¬ (hd (y :: ys)).kind = 9 from e)]
        simp
theorem behind_items {l : List It} (h : ∀ x ∈ l, Item0 x) : ∀ x ∈ (behindP l).1, Item0 x := by
  cases l with
  | nil => exact fun x hx => by cases hx
  | cons x r =>
    have hx0 := h x (by simp)
    rw [behind_cons]
    by_cases e : (hd x).kind = 9
    · rw [if_pos e]
      intro y hy
      rcases List.mem_cons.1 hy with rfl | hy
      · have hb : x.length = 1 := by
          cases x with
          | nil => exact absurd rfl hx0.ne
          | cons a s =>
            have := hx0.beh
            unfold behC at this
            rw [if_pos (by rw [show a.kind = 9 from e]; rfl)] at this
            simpa using this.symm
        have hd1 : x.drop 1 = [] := List.drop_eq_nil_of_le (by omega)
        rw [hd1]
        exact Item0.one (.inr (.inr e)) hx0.so hx0.ho
      · exact h y (by simp [hy])
    · rw [if_neg e]
      exact h
theorem behind_len (l : List It) (h : fullI l) : (behindP l).1.flatten.length = l.flatten.length := by
  cases l with
  | nil => rfl
  | cons x r =>
    have := behind_flat h (by simp)
    have h2 := behN9_len (x :: r).flatten
    rw [this] at h2
    exact h2
def startsOf : Nat → List It → List Nat
  | _, [] => []
  | p, x :: r => p :: startsOf (p + x.length) r
theorem flatI_cons9 (x : It) (l : List It) : flatI (x :: l) = x ++ flatI l := by simp [flatI]
theorem flatI_app (a b : List It) : flatI (a ++ b) = flatI a ++ flatI b := by simp [flatI]
theorem items_starts : ∀ (l : List It) (pre : List Nd), (∀ x ∈ l, Item0 x) → Items (pre ++ flatI l) pre.length (startsOf pre.length l)
  | [], pre, _ => by
    have := Items.done (L := pre ++ flatI [])
    simpa [startsOf, flatI] using this
  | x :: r, pre, h => by
    have hx := h x (by simp)
    have hp := hx.pos
    refine .step (m := x.length) ?_ ?_ ?_
    · rw [flatI_cons9]; simp; omega
    · rw [List.drop_left, flatI_cons9]
      exact behC_app _ _ _ _ hx.beh
    · have := items_starts r (pre ++ x) fun y hy => h y (by simp [hy])
      rw [List.length_append, List.append_assoc, ← flatI_cons9] at this
      exact this
theorem its_starts {l : List It} (h : ∀ x ∈ l, Item0 x) : itsP (flatI l) = startsOf 0 l := itsP_eq (items_starts l [] h)
theorem nth_mid (pre : List Nd) (x : It) (r : List Nd) (hx : x ≠ []) : nth (pre ++ (x ++ r)) pre.length = hd x := by
  unfold nth
  rw [List.getElem?_append_right (Nat.le_refl _), Nat.sub_self]
  cases x with
  | nil => exact absurd rfl hx
  | cons a t => rfl
theorem starts_hd : ∀ (l : List It) (pre : List Nd), (∀ x ∈ l, Item0 x) → (startsOf pre.length l).map (nth (pre ++ flatI l)) = l.map hd
  | [], _, _ => rfl
  | x :: r, pre, h => by
    have hx := h x (by simp)
    have := starts_hd r (pre ++ x) fun y hy => h y (by simp [hy])
    rw [List.length_append, List.append_assoc, ← flatI_cons9] at this
    rw [startsOf, List.map_cons, List.map_cons, this, flatI_cons9, nth_mid _ _ _ hx.ne]
/-! ### The meter over items -/
def mI (depth : Int) (l : List It) : Mt := l.foldl (fun m x => passM (hd x) m) ⟨.zero, 0, depth⟩
theorem mI_snoc (depth : Int) (l : List It) (x : It) : mI depth (l ++ [x]) = passM (hd x) (mI depth l) := by simp [mI]
theorem fold_hd {l : List It} (h : ∀ x ∈ l, Item0 x) (depth : Int) : foldM (flatI l) depth (startsOf 0 l) = mI depth l := by
  have h1 := starts_hd l [] h
  simp only [List.length_nil, List.nil_append] at h1
  have e1 : foldM (flatI l) depth (startsOf 0 l) = ((startsOf 0 l).map (nth (flatI l))).foldl (fun m n => passM n m) ⟨.zero, 0, depth⟩ := by unfold foldM; rw [List.foldl_map]
  have e2 : mI depth l = (l.map hd).foldl (fun m n => passM n m) ⟨.zero, 0, depth⟩ := by unfold mI; rw [List.foldl_map]
  rw [e1, e2, h1]
theorem meas_I {l : List It} (h : ∀ x ∈ l, Item0 x) (depth : Int) : measP (flatI l) (itsP (flatI l)) (flatI l).length depth = sizeM (mI depth l) := by
  rw [its_starts h]
  unfold measP
  rw [ahead_none fun x hx => by
    have := (items_starts l [] h).lt x hx
    simp only [List.nil_append] at this
    omega]
  rw [fold_hd h]
theorem mI_ok {l : List It} (h : ∀ x ∈ l, Item0 x) (hn : ∀ x ∈ l, NdB (hd x)) (hl : l.length ≤ 2001) (depth : Int) : MtB 8800000000000 (mI depth l) := by
  rw [← fold_hd h]
  have h1 := starts_hd l [] h
  simp only [List.length_nil, List.nil_append] at h1
  refine foldM_ok (fun i hi => ?_) ?_
  · have : nth (flatI l) i ∈ (startsOf 0 l).map (nth (flatI l)) := List.mem_map.2 ⟨i, hi, rfl⟩
    rw [h1] at this
    obtain ⟨x, hx, e⟩ := List.mem_map.1 this
    rw [← e]
    exact hn x hx
  · have := congrArg List.length h1
    simp only [List.length_map] at this
    omega
/-! ### What falls away ahead of the first box -/
def prunI (g : Gl) : List It → List It
  | [] => []
  | x :: r => if solidK (hd x).kind then [topN g (hd x).h] :: x :: r else if fallsK (hd x).kind then prunI g r else x :: prunI g r
theorem prunF_I (g : Gl) : ∀ (l : List It) (pre out : List Nd), (∀ x ∈ l, Item0 x) → prunF (pre ++ flatI l) g (startsOf pre.length l) out = out ++ flatI (prunI g l)
  | [], _, out, _ => by simp [startsOf, prunF, prunI, flatI]
  | x :: r, pre, out, h => by
    have hx := h x (by simp)
    have hn : nth (pre ++ flatI (x :: r)) pre.length = hd x := by rw [flatI_cons9, nth_mid _ _ _ hx.ne]
    rw [startsOf, prunF, hn, prunI]
    by_cases h1 : solidK (hd x).kind = true
    · rw [if_pos h1, if_pos h1, List.drop_left]
      simp [flatI]
    · rw [if_neg h1, if_neg h1]
      have hb : behC ((pre ++ flatI (x :: r)).drop pre.length) 0 = some x.length := by
        rw [List.drop_left, flatI_cons9]
        exact behC_app _ _ _ _ hx.beh
      have hi : itemN (pre ++ flatI (x :: r)) pre.length = x := by
        unfold itemN
        rw [hb, List.drop_left, Option.getD_some, flatI_cons9, List.take_left]
      rw [hi]
      have ih := prunF_I g r (pre ++ x) (if fallsK (hd x).kind = true then out else out ++ x) fun y hy => h y (by simp [hy])
      rw [List.length_append, List.append_assoc, ← flatI_cons9] at ih
      rw [ih]
      by_cases h2 : fallsK (hd x).kind = true
      · rw [if_pos h2, if_pos h2]
      · rw [if_neg h2, if_neg h2, flatI_cons9, List.append_assoc]
def hasS (l : List It) : Bool := l.any fun x => solidK (hd x).kind
theorem prunI_snoc (g : Gl) (x : It) : ∀ dn : List It, prunI g (dn ++ [x]) = if hasS dn then prunI g dn ++ [x] else if solidK (hd x).kind then prunI g dn ++ [[topN g (hd x).h], x] else if fallsK (hd x).kind then prunI g dn else prunI g dn ++ [x]
  | [] => by
    simp only [List.nil_append, prunI, hasS, List.any_nil, Bool.false_eq_true, if_false]
  | y :: r => by
    have ih := prunI_snoc g x r
    rw [List.cons_append, prunI, prunI, ih]
    unfold hasS
    rw [List.any_cons]
    cases h1 : solidK (hd y).kind
    · simp only [Bool.false_eq_true, if_false, Bool.false_or]
      cases h2 : fallsK (hd y).kind
      · simp only [Bool.false_eq_true, if_false]
        generalize (r.any fun x => solidK (hd x).kind) = b
        cases b
        · cases solidK (hd x).kind
          · cases fallsK (hd x).kind <;> simp
          · simp
        · simp
      · simp only [if_true]
    · simp
theorem prunI_none {g : Gl} : ∀ {dn : List It}, hasS dn = false → ∀ x ∈ prunI g dn, solidK (hd x).kind = false
  | [], _, x, hx => by cases hx
  | y :: r, h, x, hx => by
    unfold hasS at h
    rw [List.any_cons, Bool.or_eq_false_iff] at h
    rw [prunI, if_neg (by rw [h.1]; decide)] at hx
    split at hx
    · exact prunI_none h.2 x hx
    · rcases List.mem_cons.1 hx with rfl | hx
      · exact h.1
      · exact prunI_none h.2 x hx
theorem prunI_some {g : Gl} : ∀ {dn : List It}, hasS dn = true → hasS (prunI g dn) = true
  | [], h => by cases h
  | y :: r, h => by
    unfold hasS at h
    rw [List.any_cons] at h
    rw [prunI]
    cases h1 : solidK (hd y).kind
    · rw [h1, Bool.false_or] at h
      simp only [Bool.false_eq_true, if_false]
      split
      · exact prunI_some h
      · unfold hasS
        rw [List.any_cons]
        have := prunI_some (g := g) (dn := r) h
        unfold hasS at this
        rw [this, Bool.or_true]
    · simp [hasS, h1]
theorem wrap_13 {x : Int} (h : -1000000000000000 ≤ x ∧ x ≤ 1000000000000000) : wrap64 x = x := by
  unfold wrap64
  go_num
theorem met_grow {s : Sh} {m : Mt} {K : Int} (hb : MtB K m) (hK : K ≤ 8800000000000) (hd : -1073741823 ≤ m.depth ∧ m.depth ≤ 1073741823) (h : s.t = (sizeM m).1 ∧ s.depth = (sizeM m).2) {x : Int} (hx : -1073741823 ≤ x ∧ x ≤ 1073741823) :
    (growS s x).t = { m.t with nat := m.t.nat + m.d + x } ∧ (growS s x).depth = 0 := by
  refine ⟨?_, rfl⟩
  obtain ⟨h1, h2⟩ := h
  have n1 := hb.nat
  have n2 := hb.d
  show growT s.t (wrap64 (s.depth + x)) = _
  rw [h1, h2]
  unfold sizeM
  split
  · show ({ m.t with nat := wrap64 (m.t.nat + (m.d - m.depth) + wrap64 (m.depth + x)) } : Tt) = _
    rw [wrap_13 (x := m.depth + x) (by omega), wrap_13 (by omega)]
    exact congrArg (fun v => ({ m.t with nat := v } : Tt)) (by omega)
  · show ({ m.t with nat := wrap64 (m.t.nat + wrap64 (m.d + x)) } : Tt) = _
    rw [wrap_13 (x := m.d + x) (by omega), wrap_13 (by omega)]
    exact congrArg (fun v => ({ m.t with nat := v } : Tt)) (by omega)
theorem solid_light {k : Int} (h : solidK k = true) : lightK k = false := by
  cases e : lightK k
  · rfl
  · have := (light_not e).1
    rw [h] at this
    cases this
theorem met_solid {s : Sh} {m : Mt} {K : Int} (hb : MtB K m) (hK : K ≤ 8800000000000) (hd : 0 ≤ m.depth ∧ m.depth ≤ 1073741823) (h : s.t = (sizeM m).1 ∧ s.depth = (sizeM m).2) {n : Nd} (hn : NdB n) (hk : solidK n.kind = true) :
    (deepS (growS s n.h) n.d m.depth).t = (sizeM (passM n m)).1 ∧ (deepS (growS s n.h) n.d m.depth).depth = (sizeM (passM n m)).2 := by
  obtain ⟨b1, b2⟩ := hn.solid hk
  obtain ⟨e1, e2⟩ := met_grow hb hK (by omega) h (x := n.h) b1
  have n1 := hb.nat
  have n2 := hb.d
  unfold passM
  rw [if_neg (by rw [solid_light hk]; decide)]
  simp only [hk, if_true]
  unfold deepS sizeM
  dsimp only
  split
  · refine ⟨?_, rfl⟩
    show growT (growS s n.h).t _ = _
    rw [e1]
    show ({ m.t with nat := wrap64 (m.t.nat + m.d + n.h + wrap64 (n.d - m.depth)) } : Tt) = _
    rw [wrap_13 (x := n.d - m.depth) (by omega), wrap_13 (by omega)]
  · exact ⟨e1, rfl⟩
theorem flex_glue {T : Tt} {g : Gl} (hs : -8900000000000 ≤ T.st g.so.toNat ∧ T.st g.so.toNat ≤ 8900000000000) (hh : -8900000000000 ≤ T.sh g.ho.toNat ∧ T.sh g.ho.toNat ≤ 8900000000000) (h1 : -1073741823 ≤ g.str ∧ g.str ≤ 1073741823) (h2 : -1073741823 ≤ g.shr ∧ g.shr ≤ 1073741823) : flexT T g = T.glue g := by
  have hsame : ∀ x, (T.setS g.so.toNat x).sh g.ho.toNat = T.sh g.ho.toNat := fun x => by
    generalize g.so.toNat = i
    generalize g.ho.toNat = j
    match i with
    | 0 | 1 | 2 | _ + 3 => match j with | 0 | 1 | 2 | _ + 3 => rfl
  unfold flexT Tt.glue
  dsimp only
  rw [wrap_13 (x := T.st g.so.toNat + g.str) (by omega), hsame, wrap_13 (by omega)]
theorem met_skip {s : Sh} {m : Mt} {K : Int} (hb : MtB K m) (hK : K ≤ 8800000000000) (hd : 0 ≤ m.depth ∧ m.depth ≤ 1073741823) (h : s.t = (sizeM m).1 ∧ s.depth = (sizeM m).2) {n : Nd} (hn : NdB n) (hk : n.kind = 7) :
    (flexS (growS s n.glue.nat) n.glue).t = (sizeM (passM n m)).1 ∧ (flexS (growS s n.glue.nat) n.glue).depth = (sizeM (passM n m)).2 := by
  obtain ⟨e1, e2⟩ := met_grow hb hK (by omega) h (x := n.glue.nat) (hn.nat hk)
  have hp : passM n m = ⟨({ m.t with nat := m.t.nat + m.d + n.glue.nat } : Tt).glue n.glue, 0, m.depth⟩ := by
    unfold passM
    rw [hk]
    rfl
  rw [hp]
  unfold sizeM
  rw [if_neg (by show ¬ m.depth < 0; omega)]
  refine ⟨?_, e2⟩
  show flexT (growS s n.glue.nat).t n.glue = _
  rw [e1]
  have s1 := hb.st n.glue.so.toNat
  have s2 := hb.sh n.glue.ho.toNat
  have q1 : ({ m.t with nat := m.t.nat + m.d + n.glue.nat } : Tt).st n.glue.so.toNat = m.t.st n.glue.so.toNat := by
    generalize n.glue.so.toNat = i
    match i with | 0 | 1 | 2 | _ + 3 => rfl
  have q2 : ({ m.t with nat := m.t.nat + m.d + n.glue.nat } : Tt).sh n.glue.ho.toNat = m.t.sh n.glue.ho.toNat := by
    generalize n.glue.ho.toNat = i
    match i with | 0 | 1 | 2 | _ + 3 => rfl
  exact flex_glue (by rw [q1]; omega) (by rw [q2]; omega) (hn.str hk) (hn.shr hk)
theorem met_kern {s : Sh} {m : Mt} {K : Int} (hb : MtB K m) (hK : K ≤ 8800000000000) (hd : 0 ≤ m.depth ∧ m.depth ≤ 1073741823) (h : s.t = (sizeM m).1 ∧ s.depth = (sizeM m).2) {n : Nd} (hn : NdB n) (hk : n.kind = 8) :
    (growS s n.w).t = (sizeM (passM n m)).1 ∧ (growS s n.w).depth = (sizeM (passM n m)).2 := by
  obtain ⟨e1, e2⟩ := met_grow hb hK (by omega) h (x := n.w) (hn.kern hk)
  have hp : passM n m = ⟨{ m.t with nat := m.t.nat + m.d + n.w }, 0, m.depth⟩ := by
    unfold passM
    rw [hk]
    rfl
  rw [hp]
  unfold sizeM
  rw [if_neg (by show ¬ m.depth < 0; omega)]
  exact ⟨e1, e2⟩
theorem pass_light {n : Nd} (h : lightK n.kind = true) (m : Mt) : passM n m = m := by
  unfold passM
  rw [if_pos h]
theorem badG_T {goal : Int} {t : Tt} (h1 : -8900000000000 ≤ t.nat ∧ t.nat ≤ 8900000000000) (h2 : -1073741823 ≤ goal ∧ goal ≤ 1073741823) : badG goal t = badT t goal := by
  unfold badG badT badM held31
  dsimp only
  rw [wrap_13 (x := goal - t.nat) (by omega), wrap_13 (x := -(goal - t.nat)) (by omega)]
  generalize hx : goal - t.nat = x
  by_cases c1 : 0 < x
  · by_cases c2 : t.s1 = 0 ∧ t.s2 = 0 ∧ t.s3 = 0
    · have n1 : ¬ (x = 0 ∨ 0 < x ∧ (t.s1 ≠ 0 ∨ t.s2 ≠ 0 ∨ t.s3 ≠ 0)) := by omega
      have n2 : ¬ (x < 0 ∧ t.h0 < -x) := by omega
      simp only [if_neg n1, if_neg n2, if_pos c1, if_pos c2]
      congr 1
      omega
    · have n1 : x = 0 ∨ 0 < x ∧ (t.s1 ≠ 0 ∨ t.s2 ≠ 0 ∨ t.s3 ≠ 0) := by
        refine .inr ⟨c1, ?_⟩
        refine Classical.byContradiction fun hn => c2 ?_
        omega
      simp only [if_pos n1, if_pos c1, if_neg c2]
  · by_cases c3 : x < 0
    · have n1 : ¬ (x = 0 ∨ 0 < x ∧ (t.s1 ≠ 0 ∨ t.s2 ≠ 0 ∨ t.s3 ≠ 0)) := by omega
      by_cases c4 : t.h0 < -x
      · have n2 : x < 0 ∧ t.h0 < -x := ⟨c3, c4⟩
        simp only [if_neg n1, if_pos n2, if_neg c1, if_pos c3, if_pos c4]
      · have n2 : ¬ (x < 0 ∧ t.h0 < -x) := fun h => c4 h.2
        have n3 : ¬ -x < 0 := by omega
        simp only [if_neg n1, if_neg n2, if_neg c1, if_pos c3, if_neg c4, if_neg n3]
        congr 1
        omega
    · have n1 : x = 0 ∨ 0 < x ∧ (t.s1 ≠ 0 ∨ t.s2 ≠ 0 ∨ t.s3 ≠ 0) := .inl (by omega)
      simp only [if_pos n1, if_neg c1, if_neg c3]
theorem cost_P {s : Sh} {q : Int} (hp : s.pens = 0) (hq : q < 10000) (h1 : -8900000000000 ≤ s.t.nat ∧ s.t.nat ≤ 8900000000000) (h2 : -1073741823 ≤ s.goal ∧ s.goal ≤ 1073741823) : costI s q = pricedP (badT s.t s.goal) q := by
  have hr := badG_range s.goal s.t
  rw [badG_T h1 h2] at hr
  unfold costI pricedP
  have e : badI s = badT s.t s.goal := badG_T h1 h2
  rw [e, hp]
  by_cases c1 : badT s.t s.goal = 1073741823
  · rw [if_pos (.inl c1), if_pos c1]
  · rw [if_neg (by omega), if_neg c1]
    by_cases c2 : q ≤ -10000
    · rw [if_pos c2, if_pos c2]
    · rw [if_neg c2, if_neg c2]
      by_cases c3 : badT s.t s.goal < 10000
      · rw [if_pos c3, if_pos c3, Int.add_zero, wrap_13 (x := badT s.t s.goal + q) (by omega), wrap_13 (by omega)]
      · rw [if_neg c3, if_neg c3]
end Go.Proofs.YtomehdepjenilaaGreat
