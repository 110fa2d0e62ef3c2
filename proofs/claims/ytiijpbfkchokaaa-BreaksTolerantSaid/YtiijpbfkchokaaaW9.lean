/-
  What is chosen among all ways to break a paragraph (plain): it is the best of all that may be gone; with looseness it is the best of its number of lines; who tolerates more has no more bad lines.
-/
import Derived.Test.YtiijpbfkchokaaaW8
namespace Go.Proofs.Ytiijpbfkchokaaa
open Go.ChangeShapes Go.WideShapes Go.ChangeAt Go.RowKit
/-- how much lines are too wide, how many are bad, all demerits -/
def weighW (ls : List Bk) : Int × Int × Int := ((ls.map Bk.over).sum, (ls.map fun b => if b.isBad then (1 : Int) else 0).sum, (ls.map Bk.dem).sum)
def leastW (a b : Int × Int × Int) : Bool := if a.1 = b.1 then (if a.2.1 = b.2.1 then (if a.2.2 = b.2.2 then true else decide (a.2.2 < b.2.2)) else decide (a.2.1 < b.2.1)) else decide (a.1 < b.1)
/-- the ways among which one is chosen -/
def fieldW (one : Option Nat → Nat × Int → Int → Int → Bk) (B : List (Nat × Int)) (last : Bool) : List Wy :=
  if (waysW one false B).isEmpty && last then waysW one true B else waysW one false B
/-- the way that is chosen, and how many lines it has more -/
def chooseW (one : Option Nat → Nat × Int → Int → Int → Bk) (B : List (Nat × Int)) (last : Bool) (P : Int) : Option (Wy × Int) :=
  match pickW 0 (fieldW one B last) none with
  | none => none
  | some y => if looseW P y (fieldW one B last) 0 = 0 then some (y, 0) else some ((pickW ((y.ats.length : Int) + looseW P y (fieldW one B last) 0) (fieldW one B last) none).getD y, looseW P y (fieldW one B last) 0)
/-- what lines are: good ones are not too wide -/
structure OneOk (one : Option Nat → Nat × Int → Int → Int → Bk) : Prop where
  good : ∀ f x line before, (one f x line before).isBad = false → (one f x line before).over = 0
  over : ∀ f x line before, 0 ≤ (one f x line before).over
  at_ : ∀ f x line before, (one f x line before).at_ = (x.1 : Int)
structure BOk (B : List (Nat × Int)) : Prop where
  ne : B ≠ []
  rises : Rises B
  last : penA B (B.length - 1) ≤ -10000
theorem leastW_of {a b : Wy} {ls ms : List Bk} {one : Option Nat → Nat × Int → Int → Int → Bk} {all all' : Bool} {B : List (Nat × Int)} {o o' : Option Nat} (ha : PathW one all B o a ls) (hb : PathW one all' B o' b ms) (h : betB b a = false) : leastW (weighW ls) (weighW ms) = true := by
  obtain ⟨a1, a2, a3, _⟩ := ha.sums
  obtain ⟨b1, b2, b3, _⟩ := hb.sums
  have n : ¬ betB b a = true := by rw [h]; decide
  rw [betB_iff, a1, a2, a3, b1, b2, b3] at n
  unfold leastW weighW
  simp only
  by_cases e1 : (ls.map Bk.over).sum = (ms.map Bk.over).sum
  · rw [if_pos e1]
    by_cases e2 : (ls.map fun b => if b.isBad then (1 : Int) else 0).sum = (ms.map fun b => if b.isBad then (1 : Int) else 0).sum
    · rw [if_pos e2]
      by_cases e3 : (ls.map Bk.dem).sum = (ms.map Bk.dem).sum
      · rw [if_pos e3]
      · rw [if_neg e3, decide_eq_true_eq]
        by_cases h9 : (ls.map Bk.dem).sum < (ms.map Bk.dem).sum
        · exact h9
        · exact absurd (.inr ⟨e1.symm, .inr ⟨e2.symm, .inl (by omega)⟩⟩) n
    · rw [if_neg e2, decide_eq_true_eq]
      by_cases h9 : (ls.map fun b => if b.isBad then (1 : Int) else 0).sum < (ms.map fun b => if b.isBad then (1 : Int) else 0).sum
      · exact h9
      · exact absurd (.inr ⟨e1.symm, .inl (by omega)⟩) n
  · rw [if_neg e1, decide_eq_true_eq]
    by_cases h9 : (ls.map Bk.over).sum < (ms.map Bk.over).sum
    · exact h9
    · exact absurd (.inl (by omega)) n
section
variable {one : Option Nat → Nat × Int → Int → Int → Bk} {all : Bool} {B : List (Nat × Int)}
theorem PathW.over_nn (h1 : OneOk one) {o : Option Nat} {a : Wy} {ls : List Bk} (h : PathW one all B o a ls) : 0 ≤ a.over ∧ 0 ≤ a.bad ∧ (a.bad = 0 → ∀ b ∈ ls, b.isBad = false) ∧ ((∀ b ∈ ls, b.isBad = false) → a.over = 0 ∧ a.bad = 0) := by
  induction h with
  | nil => exact ⟨Int.le_refl _, Int.le_refl _, fun _ b hb => (by cases hb), fun _ => ⟨rfl, rfl⟩⟩
  | @cons o a ls i hi h ho hg ih =>
    obtain ⟨i1, i2, i3, i4⟩ := ih
    have ho := h1.over (atA B o) (B.getD i (0, 0)) (a.ats.length + 1) a.cls
    have hgd := h1.good (atA B o) (B.getD i (0, 0)) (a.ats.length + 1) a.cls
    refine ⟨?_, ?_, ?_, ?_⟩
    · show 0 ≤ a.over + _
      have : 0 ≤ (lineW one B o i a).over := ho
      omega
    · show 0 ≤ a.bad + _
      split <;> omega
    · intro hz b hb
      have hz : a.bad + (if (lineW one B o i a).isBad = true then 1 else 0) = 0 := hz
      rcases List.mem_append.1 hb with h2 | h2
      · refine i3 ?_ b h2
        split at hz <;> omega
      · rw [List.mem_singleton.1 h2]
        cases hq : (lineW one B o i a).isBad with
        | false => rfl
        | true => rw [hq, if_pos rfl] at hz; omega
    · intro hz
      obtain ⟨j1, j2⟩ := i4 fun b hb => hz b (List.mem_append_left _ hb)
      have j3 : (lineW one B o i a).isBad = false := hz _ (List.mem_append_right _ (List.mem_singleton.2 rfl))
      have j4 : (lineW one B o i a).over = 0 := hgd j3
      refine ⟨?_, ?_⟩
      · show a.over + (lineW one B o i a).over = 0
        omega
      · show a.bad + (if (lineW one B o i a).isBad = true then 1 else 0) = 0
        rw [j3, if_neg (by decide)]; omega
/-- the way with all breaks -/
theorem path_all (one : Option Nat → Nat × Int → Int → Int → Bk) (B : List (Nat × Int)) : ∀ i, i < B.length → ∃ a ls, PathW one true B (some i) a ls
  | 0, hi => ⟨_, _, .cons 0 hi .nil (by simp [preds]) (by simp)⟩
  | i + 1, hi => by
    obtain ⟨a, ls, h⟩ := path_all one B i (by omega)
    exact ⟨_, _, .cons (i + 1) hi h ((preds_succ _ _ _).2 (.inl rfl)) (by simp)⟩
theorem fieldW_ne (hB : BOk B) : fieldW one B true ≠ [] := by
  unfold fieldW
  intro h
  have hn : 0 < B.length := List.length_pos_iff.2 hB.ne
  cases he : (waysW one false B).isEmpty with
  | true =>
    rw [he] at h
    obtain ⟨a, ls, hp⟩ := path_all one B (B.length - 1) (by omega)
    obtain ⟨c, hc, _⟩ := waysW_best hB.ne hp
    rw [if_pos (by decide)] at h
    rw [h] at hc
    cases hc
  | false =>
    rw [he, if_neg (by decide)] at h
    rw [h] at he
    cases he
theorem fieldW_sound (hB : BOk B) {last : Bool} {a : Wy} (h : a ∈ fieldW one B last) : ∃ ls, PathW one true B (some (B.length - 1)) a ls := by
  unfold fieldW at h
  split at h
  · exact waysW_sound one true B hB.ne h
  · obtain ⟨ls, h1⟩ := waysW_sound one false B hB.ne h
    exact ⟨ls, h1.weak⟩
/-- a way that is no worse than all in the field of its kind is no worse than all -/
theorem fieldW_best (h1 : OneOk one) (hB : BOk B) {y : Wy} (hy : y ∈ fieldW one B true) {a : Wy} {ls : List Bk} (hp : PathW one true B (some (B.length - 1)) a ls) (hm : ∀ w ∈ fieldW one B true, kinB w a → betB w y = false) : betB a y = false := by
  cases he : (waysW one false B).isEmpty with
  | true =>
    have hf : fieldW one B true = waysW one true B := by unfold fieldW; rw [he]; rfl
    rw [hf] at hm hy
    obtain ⟨c, hc, hk, hg⟩ := waysW_best hB.ne hp
    have h3 := hm c hc hk
    rcases hg with hg | hg
    · rw [← hg]; exact h3
    · cases h5 : betB a y with
      | false => rfl
      | true => rw [betB_trans hg h5] at h3; cases h3
  | false =>
    have hf : fieldW one B true = waysW one false B := by unfold fieldW; rw [he]; rfl
    rw [hf] at hm hy
    obtain ⟨ms, hy1⟩ := waysW_sound one false B hB.ne hy
    obtain ⟨y1, y2⟩ := (hy1.over_nn h1).2.2.2 hy1.good
    obtain ⟨a1, a2, a3, a4⟩ := hp.over_nn h1
    by_cases hb : a.bad = 0
    · have hp' := hp.strong (a3 hb)
      obtain ⟨c, hc, hk, hg⟩ := waysW_best hB.ne hp'
      have h3 := hm c hc hk
      rcases hg with hg | hg
      · rw [← hg]; exact h3
      · cases h5 : betB a y with
        | false => rfl
        | true => rw [betB_trans hg h5] at h3; cases h3
    · cases h5 : betB a y with
      | false => rfl
      | true =>
        rcases (betB_iff a y).1 h5 with h6 | ⟨_, h6 | ⟨h6, _⟩⟩ <;> omega
/-- the best of all -/
structure Bests (one : Option Nat → Nat × Int → Int → Int → Bk) (B : List (Nat × Int)) (y : Wy) (ls : List Bk) : Prop where
  mem : y ∈ fieldW one B true
  path : PathW one true B (some (B.length - 1)) y ls
  best : ∀ a ms, PathW one true B (some (B.length - 1)) a ms → betB a y = false
theorem pick_bests (h1 : OneOk one) (hB : BOk B) : ∃ y ls, pickW 0 (fieldW one B true) none = some y ∧ Bests one B y ls := by
  obtain ⟨w, r, he⟩ := List.exists_cons_of_ne_nil (fieldW_ne (one := one) hB)
  have hs : (pickW 0 (fieldW one B true) none).isSome = true := pickW_some (.inr ⟨w, by rw [he]; exact List.mem_cons_self, .inl rfl⟩)
  obtain ⟨y, hy⟩ := Option.isSome_iff_exists.1 hs
  have hm : y ∈ fieldW one B true := by
    rcases pickW_mem hy with h | h
    · exact h.1
    · cases h
  obtain ⟨ls, hp⟩ := fieldW_sound hB hm
  refine ⟨y, ls, hy, hm, hp, fun a ms ha => fieldW_best h1 hB hm ha (fun w hw _ => (pickW_best hy).1 w hw (.inl rfl))⟩
theorem looseW_spec (P : Int) (y : Wy) : ∀ (l : List Wy) (l0 : Int), min 0 P ≤ l0 → l0 ≤ max 0 P →
    min 0 P ≤ looseW P y l l0 ∧ looseW P y l l0 ≤ max 0 P ∧ (0 ≤ P → l0 ≤ looseW P y l l0) ∧ (P ≤ 0 → looseW P y l l0 ≤ l0) ∧ (looseW P y l l0 = l0 ∨ ∃ w ∈ l, w.over = y.over ∧ w.bad = y.bad ∧ (w.ats.length : Int) - y.ats.length = looseW P y l l0) ∧
    (∀ w ∈ l, w.over = y.over → w.bad = y.bad → (0 ≤ P → (w.ats.length : Int) - y.ats.length ≤ P → (w.ats.length : Int) - y.ats.length ≤ looseW P y l l0) ∧ (P ≤ 0 → P ≤ (w.ats.length : Int) - y.ats.length → looseW P y l l0 ≤ (w.ats.length : Int) - y.ats.length))
  | [], l0, h1, h2 => ⟨h1, h2, fun _ => Int.le_refl _, fun _ => Int.le_refl _, .inl rfl, fun w hw => (by cases hw)⟩
  | w :: r, l0, h1, h2 => by
    rw [looseW]
    by_cases hc : w.over = y.over ∧ w.bad = y.bad ∧ ((l0 < (w.ats.length : Int) - y.ats.length ∧ (w.ats.length : Int) - y.ats.length ≤ P) ∨ ((w.ats.length : Int) - y.ats.length < l0 ∧ P ≤ (w.ats.length : Int) - y.ats.length))
    · simp only [if_pos hc]
      obtain ⟨c1, c2, c3⟩ := hc
      obtain ⟨i1, i2, i3, i4, i5, i6⟩ := looseW_spec P y r ((w.ats.length : Int) - y.ats.length) (by omega) (by omega)
      refine ⟨i1, i2, fun h => by have := i3 h; omega, fun h => by have := i4 h; omega, .inr ?_, fun u hu e1 e2 => ?_⟩
      · rcases i5 with i5 | ⟨u, hu, i7⟩
        · exact ⟨w, List.mem_cons_self, c1, c2, i5.symm⟩
        · exact ⟨u, List.mem_cons_of_mem _ hu, i7⟩
      · rcases List.mem_cons.1 hu with rfl | hu
        · exact ⟨fun h _ => i3 h, fun h _ => i4 h⟩
        · exact i6 u hu e1 e2
    · simp only [if_neg hc]
      obtain ⟨i1, i2, i3, i4, i5, i6⟩ := looseW_spec P y r l0 h1 h2
      refine ⟨i1, i2, i3, i4, ?_, fun u hu e1 e2 => ?_⟩
      · rcases i5 with i5 | ⟨u, hu, i7⟩
        · exact .inl i5
        · exact .inr ⟨u, List.mem_cons_of_mem _ hu, i7⟩
      · rcases List.mem_cons.1 hu with rfl | hu
        · refine ⟨fun h3 h4 => ?_, fun h3 h4 => ?_⟩
          · have := i3 h3
            by_cases h5 : l0 < (u.ats.length : Int) - y.ats.length
            · exact absurd ⟨e1, e2, .inl ⟨h5, h4⟩⟩ hc
            · omega
          · have := i4 h3
            by_cases h5 : (u.ats.length : Int) - y.ats.length < l0
            · exact absurd ⟨e1, e2, .inr ⟨h5, h4⟩⟩ hc
            · omega
        · exact i6 u hu e1 e2
theorem looseW_zero (y : Wy) (l : List Wy) : looseW 0 y l 0 = 0 := by
  have h := looseW_spec 0 y l 0 (by omega) (by omega)
  have h1 := h.1
  have h2 := h.2.1
  clear h
  omega
/-- what is chosen without looseness -/
theorem chooseW_zero (h1 : OneOk one) (hB : BOk B) : ∃ y ls, chooseW one B true 0 = some (y, 0) ∧ Bests one B y ls ∧ lnsW one B (y.ats.map fun x : Nat => (x : Int)) none 1 2 = some ls := by
  obtain ⟨y, ls, hy, hb⟩ := pick_bests h1 hB
  refine ⟨y, ls, ?_, hb, hb.path.lines_end hB.rises hB.ne⟩
  unfold chooseW
  rw [hy]
  have hz := looseW_zero y (fieldW one B true)
  simp only
  rw [if_pos hz]
/-- what is chosen at all -/
structure Loosed (one : Option Nat → Nat × Int → Int → Int → Bk) (B : List (Nat × Int)) (P : Int) (y z : Wy) (l : Int) (ls : List Bk) : Prop where
  path : PathW one true B (some (B.length - 1)) z ls
  lines : lnsW one B (z.ats.map fun x : Nat => (x : Int)) none 1 2 = some ls
  len : (z.ats.length : Int) - y.ats.length = l
  lo : min 0 P ≤ l
  hi : l ≤ max 0 P
  over : z.over = y.over
  bad : z.bad = y.bad
  near : ∀ a ms, PathW one true B (some (B.length - 1)) a ms → a.over = y.over → a.bad = y.bad → (0 < P → (a.ats.length : Int) - y.ats.length ≤ P → (a.ats.length : Int) - y.ats.length ≤ l) ∧ (P < 0 → P ≤ (a.ats.length : Int) - y.ats.length → l ≤ (a.ats.length : Int) - y.ats.length)
  best : ∀ a ms, PathW one true B (some (B.length - 1)) a ms → a.ats.length = z.ats.length → betB a z = false
theorem chooseW_spec (h1 : OneOk one) (hB : BOk B) (P : Int) : ∃ y z l ls ms, chooseW one B true P = some (z, l) ∧ chooseW one B true 0 = some (y, 0) ∧ Bests one B y ms ∧ Loosed one B P y z l ls := by
  obtain ⟨y, ms, hy, hb⟩ := pick_bests h1 hB
  have h0 : chooseW one B true 0 = some (y, 0) := by
    unfold chooseW
    rw [hy]
    have hz := looseW_zero y (fieldW one B true)
    simp only
    rw [if_pos hz]
  obtain ⟨l, hl⟩ : ∃ l, looseW P y (fieldW one B true) 0 = l := ⟨_, rfl⟩
  obtain ⟨i1, i2, i3, i4, i5, i6⟩ := looseW_spec P y (fieldW one B true) 0 (by omega) (by omega)
  rw [hl] at i1 i2 i3 i4 i5 i6
  -- of each way one as good of its kind lies in the field, if it has as few bad lines
  have hk : ∀ a as_, PathW one true B (some (B.length - 1)) a as_ → a.over = y.over → a.bad = y.bad → ∃ c, c ∈ fieldW one B true ∧ kinB c a ∧ c.over = y.over ∧ c.bad = y.bad := by
    intro a as_ ha e1 e2
    have hcc : hasB (fieldW one B true) a := by
      cases he : (waysW one false B).isEmpty with
      | true =>
        have hf : fieldW one B true = waysW one true B := by unfold fieldW; rw [he]; rfl
        rw [hf]
        exact waysW_best hB.ne ha
      | false =>
        have hf : fieldW one B true = waysW one false B := by unfold fieldW; rw [he]; rfl
        have hm := hb.mem
        rw [hf] at hm ⊢
        obtain ⟨ns, hy1⟩ := waysW_sound one false B hB.ne hm
        obtain ⟨y1, y2⟩ := (hy1.over_nn h1).2.2.2 hy1.good
        obtain ⟨a1, a2, a3, a4⟩ := ha.over_nn h1
        exact waysW_best hB.ne (ha.strong (a3 (by omega)))
    obtain ⟨c, hc, hk, hg⟩ := hcc
    obtain ⟨cs, hcp⟩ := fieldW_sound hB hc
    have hcy := hb.best c cs hcp
    have hay := hb.best a as_ ha
    refine ⟨c, hc, hk, ?_⟩
    rcases hg with hg | hg
    · rw [hg]; exact ⟨e1, e2⟩
    · have n1 : ¬ betB c y = true := by rw [hcy]; decide
      rw [betB_iff] at n1 hg
      have e3 : c.over = y.over := by
        rcases hg with h | ⟨h, _⟩
        · exact absurd (.inl (by omega)) n1
        · omega
      refine ⟨e3, ?_⟩
      rcases hg with h | ⟨h, h2 | ⟨h2, _⟩⟩
      · exact absurd (.inl (by omega)) n1
      · exact absurd (.inr ⟨e3, .inl (by omega)⟩) n1
      · omega
  have hnear : ∀ a as_, PathW one true B (some (B.length - 1)) a as_ → a.over = y.over → a.bad = y.bad → (0 < P → (a.ats.length : Int) - y.ats.length ≤ P → (a.ats.length : Int) - y.ats.length ≤ l) ∧ (P < 0 → P ≤ (a.ats.length : Int) - y.ats.length → l ≤ (a.ats.length : Int) - y.ats.length) := by
    intro a as_ ha e1 e2
    obtain ⟨c, hc, hkc, c1, c2⟩ := hk a as_ ha e1 e2
    obtain ⟨j1, j2⟩ := i6 c hc c1 c2
    rw [hkc.1] at j1 j2
    exact ⟨fun h => j1 (by omega), fun h => j2 (by omega)⟩
  by_cases hz : l = 0
  · subst hz
    refine ⟨y, y, 0, ms, ms, ?_, h0, hb, hb.path, hb.path.lines_end hB.rises hB.ne, by omega, i1, i2, rfl, rfl, hnear, fun a as_ ha _ => hb.best a as_ ha⟩
    unfold chooseW
    rw [hy]
    simp only
    rw [if_pos hl]
  · obtain ⟨w, hw, w1, w2, w3⟩ : ∃ w ∈ fieldW one B true, w.over = y.over ∧ w.bad = y.bad ∧ (w.ats.length : Int) - y.ats.length = l := by
      rcases i5 with h | h
      · exact absurd h hz
      · exact h
    have hs : (pickW ((y.ats.length : Int) + l) (fieldW one B true) none).isSome = true := pickW_some (.inr ⟨w, hw, .inr (by omega)⟩)
    obtain ⟨z, hzp⟩ := Option.isSome_iff_exists.1 hs
    obtain ⟨hzm, hzn⟩ : z ∈ fieldW one B true ∧ ((y.ats.length : Int) + l = 0 ∨ (z.ats.length : Int) = (y.ats.length : Int) + l) := by
      rcases pickW_mem hzp with h | h
      · exact h
      · cases h
    obtain ⟨ls, hp⟩ := fieldW_sound hB hzm
    obtain ⟨ws, hwp⟩ := fieldW_sound hB hw
    have hpos : ∀ {u : Wy} {us : List Bk}, PathW one true B (some (B.length - 1)) u us → 0 < u.ats.length := fun {u us} hu => by
      cases hu
      simp [Wy.ext]
    have hw0 := hpos hwp
    have hlen : (z.ats.length : Int) = (y.ats.length : Int) + l := by
      rcases hzn with h | h
      · omega
      · exact h
    have hmin : ∀ u ∈ fieldW one B true, u.ats.length = z.ats.length → betB u z = false := fun u hu hn => (pickW_best hzp).1 u hu (.inr (by omega))
    have hzw := hmin w hw (by omega)
    have hyz := hb.best z ls hp
    have n1 : ¬ betB w z = true := by rw [hzw]; decide
    have n2 : ¬ betB z y = true := by rw [hyz]; decide
    rw [betB_iff] at n1 n2
    have e1 : z.over = y.over := by
      rcases Int.lt_trichotomy z.over y.over with h | h | h
      · exact absurd (.inl h) n2
      · exact h
      · exact absurd (.inl (by omega)) n1
    have e2 : z.bad = y.bad := by
      rcases Int.lt_trichotomy z.bad y.bad with h | h | h
      · exact absurd (.inr ⟨e1, .inl h⟩) n2
      · exact h
      · exact absurd (.inr ⟨by omega, .inl (by omega)⟩) n1
    refine ⟨y, z, l, ls, ms, ?_, h0, hb, hp, hp.lines_end hB.rises hB.ne, by omega, i1, i2, e1, e2, hnear, fun a as_ ha hn => ?_⟩
    · unfold chooseW
      rw [hy]
      simp only
      rw [hl, if_neg hz, hzp]
      rfl
    · exact fieldW_best h1 hB hzm ha (fun u hu hku => hmin u hu (hku.1.trans hn))
end
/-- what two tolerances have to do with one another -/
structure Tols (t : Int) (one two : Option Nat → Nat × Int → Int → Int → Bk) : Prop where
  over : ∀ f x line before, (one f x line before).over = (two f x line before).over
  cls : ∀ f x line before, (one f x line before).cls = (two f x line before).cls
  bad : ∀ f x line before, (two f x line before).isBad = true → (one f x line before).isBad = true
  eq : ∀ f x line before, (one f x line before).isBad = (two f x line before).isBad → one f x line before = two f x line before
  small : ∀ f x line before, (two f x line before).bad ≤ t → one f x line before = two f x line before
section
variable {one two : Option Nat → Nat × Int → Int → Int → Bk} {B : List (Nat × Int)} {t : Int}
/-- a way under the lesser tolerance is one under the greater -/
theorem PathW.more (ht : Tols t one two) {o : Option Nat} {a : Wy} {ls : List Bk} (h : PathW one true B o a ls) : ∃ b ms, PathW two true B o b ms ∧ b.ats = a.ats ∧ b.cls = a.cls ∧ b.over = a.over ∧ b.bad ≤ a.bad ∧ (b.bad = a.bad → ls = ms ∧ a = b) := by
  induction h with
  | nil => exact ⟨_, _, .nil, rfl, rfl, rfl, Int.le_refl _, fun _ => ⟨rfl, rfl⟩⟩
  | @cons o a ls i hi h ho hg ih =>
    obtain ⟨b, ms, h1, h2, h3, h4, h5, h6⟩ := ih
    have hl : lineW two B o i b = two (atA B o) (B.getD i (0, 0)) (a.ats.length + 1) a.cls := by unfold lineW; rw [h2, h3]
    have t1 := ht.over (atA B o) (B.getD i (0, 0)) (a.ats.length + 1) a.cls
    have t2 := ht.cls (atA B o) (B.getD i (0, 0)) (a.ats.length + 1) a.cls
    have t3 := ht.bad (atA B o) (B.getD i (0, 0)) (a.ats.length + 1) a.cls
    have t4 := ht.eq (atA B o) (B.getD i (0, 0)) (a.ats.length + 1) a.cls
    refine ⟨_, _, .cons i hi h1 ho (by simp), ?_, ?_, ?_, ?_, ?_⟩
    · show b.ats ++ _ = a.ats ++ _
      rw [h2]
    · show (lineW two B o i b).cls = (lineW one B o i a).cls
      rw [hl]; exact t2.symm
    · show b.over + (lineW two B o i b).over = a.over + (lineW one B o i a).over
      rw [hl, h4]
      show a.over + _ = a.over + (one _ _ _ _).over
      rw [t1]
    · show b.bad + (if (lineW two B o i b).isBad = true then 1 else 0) ≤ a.bad + (if (lineW one B o i a).isBad = true then 1 else 0)
      rw [hl]
      by_cases hq : (two (atA B o) (B.getD i (0, 0)) (a.ats.length + 1) a.cls).isBad = true
      · rw [if_pos hq, if_pos (t3 hq)]; omega
      · rw [if_neg hq]; split <;> omega
    · intro he
      have he : b.bad + (if (lineW two B o i b).isBad = true then 1 else 0) = a.bad + (if (lineW one B o i a).isBad = true then 1 else 0) := he
      rw [hl] at he
      have hu : lineW one B o i a = one (atA B o) (B.getD i (0, 0)) (a.ats.length + 1) a.cls := rfl
      rw [hu] at he
      have hbb : (one (atA B o) (B.getD i (0, 0)) (a.ats.length + 1) a.cls).isBad = (two (atA B o) (B.getD i (0, 0)) (a.ats.length + 1) a.cls).isBad ∧ b.bad = a.bad := by
        cases hq : (two (atA B o) (B.getD i (0, 0)) (a.ats.length + 1) a.cls).isBad with
        | true => rw [t3 hq] at he ⊢; rw [hq] at he; simp only [if_true] at he; exact ⟨rfl, by omega⟩
        | false =>
          rw [hq] at he
          cases hq2 : (one (atA B o) (B.getD i (0, 0)) (a.ats.length + 1) a.cls).isBad with
          | false => rw [hq2] at he; exact ⟨rfl, by simpa using he⟩
          | true => rw [hq2] at he; simp at he; omega
      obtain ⟨j1, j2⟩ := h6 hbb.2
      have j3 : lineW one B o i a = lineW two B o i b := by rw [hl, hu]; exact t4 hbb.1
      rw [j3, j1, j2]
      exact ⟨rfl, rfl⟩
/-- .. and the other way round, if its lines are good enough -/
theorem PathW.less (ht : Tols t one two) {o : Option Nat} {b : Wy} {ms : List Bk} (h : PathW two true B o b ms) : ∃ a ls, PathW one true B o a ls ∧ a.ats = b.ats ∧ a.cls = b.cls ∧ a.over = b.over ∧ ((∀ x ∈ ms, x.bad ≤ t) → ls = ms ∧ a = b) := by
  induction h with
  | nil => exact ⟨_, _, .nil, rfl, rfl, rfl, fun _ => ⟨rfl, rfl⟩⟩
  | @cons o b ms i hi h ho hg ih =>
    obtain ⟨a, ls, h1, h2, h3, h4, h6⟩ := ih
    have hl : lineW one B o i a = one (atA B o) (B.getD i (0, 0)) (b.ats.length + 1) b.cls := by unfold lineW; rw [h2, h3]
    have t1 := ht.over (atA B o) (B.getD i (0, 0)) (b.ats.length + 1) b.cls
    have t2 := ht.cls (atA B o) (B.getD i (0, 0)) (b.ats.length + 1) b.cls
    have t5 := ht.small (atA B o) (B.getD i (0, 0)) (b.ats.length + 1) b.cls
    refine ⟨_, _, .cons i hi h1 ho (by simp), ?_, ?_, ?_, ?_⟩
    · show a.ats ++ _ = b.ats ++ _
      rw [h2]
    · show (lineW one B o i a).cls = (lineW two B o i b).cls
      rw [hl]; exact t2
    · show a.over + (lineW one B o i a).over = b.over + (lineW two B o i b).over
      rw [hl, h4]
      show b.over + _ = b.over + (two _ _ _ _).over
      rw [t1]
    · intro hx
      obtain ⟨j1, j2⟩ := h6 fun x hx' => hx x (List.mem_append_left _ hx')
      have j3 : lineW one B o i a = lineW two B o i b := by
        rw [hl]
        exact t5 (hx (lineW two B o i b) (List.mem_append_right _ (List.mem_singleton.2 rfl)))
      rw [j3, j1, j2]
      exact ⟨rfl, rfl⟩
/-- who tolerates more -/
theorem tolerant (hB : BOk B) (ht : Tols t one two) {a b : Wy} {ls ms : List Bk} (ha : Bests one B a ls) (hb : Bests two B b ms) : a.over = b.over ∧ b.bad ≤ a.bad ∧ ((∀ x ∈ ms, x.bad ≤ t) → ls = ms) := by
  obtain ⟨a', as_, p1, p2, p3, p4, p5, p6⟩ := ha.path.more ht
  obtain ⟨b', bs, q1, q2, q3, q4, q5⟩ := hb.path.less ht
  have n1 : ¬ betB a' b = true := by rw [hb.best a' as_ p1]; decide
  have n2 : ¬ betB b' a = true := by rw [ha.best b' bs q1]; decide
  have m1 := n1
  have m2 := n2
  rw [betB_iff] at m1 m2
  have e1 : a.over = b.over := by
    rcases Int.lt_trichotomy a.over b.over with h | h | h
    · exact absurd (.inl (by omega)) m1
    · exact h
    · exact absurd (.inl (by omega)) m2
  have e2 : b.bad ≤ a'.bad := by
    by_cases h : b.bad ≤ a'.bad
    · exact h
    · exact absurd (.inr ⟨by omega, .inl (by omega)⟩) m1
  refine ⟨e1, by omega, fun hx => ?_⟩
  obtain ⟨r1, r2⟩ := q5 hx
  subst r1 r2
  have e3 : a.bad ≤ b'.bad := by
    by_cases h : a.bad ≤ b'.bad
    · exact h
    · exact absurd (.inr ⟨by omega, .inl (by omega)⟩) m2
  obtain ⟨s1, s2⟩ := p6 (by omega)
  subst s1 s2
  obtain ⟨_, _, _, e5⟩ := betB_total (by cases h : betB a b' with | false => rfl | true => exact absurd h n1) (by cases h : betB b' a with | false => rfl | true => exact absurd h n2)
  exact ha.path.inj hB.rises q1 hB.ne e5
end
end Go.Proofs.Ytiijpbfkchokaaa
