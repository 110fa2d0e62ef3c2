/-
  The best break (plain).
  The program's Best.
  The tail of a good column is a good column (plain).
-/
import Derived.Test.YtkkdopfdoommnaaC8
import Derived.RegionIn
namespace Go.Proofs.Ytkkdopfdoommnaa
open Go.RowKit
theorem costP_le (T : Tt) (h q : Int) (hq : q < 10000) : costP T h q ≤ 1073741823 := by
  unfold costP
  split
  · omega
  split
  · omega
  split
  · omega
  · omega
/-- a break: its place, what stands ahead of it, its cost -/
def atB (L : List Nd) (s : List Nat) (height depth : Int) (x : Nat × Int) : Nat × Int × Int :=
  (x.1, (measP L s x.1 depth).1.nat + (measP L s x.1 depth).2, costP (measP L s x.1 depth).1 height x.2)
def stepB (L : List Nd) (s : List Nat) (height depth : Int) (o : Option (Nat × Int × Int)) (x : Nat × Int) : Option (Nat × Int × Int) :=
  match o with
  | none => some (atB L s height depth x)
  | some y => if (atB L s height depth x).2.2 ≤ y.2.2 then some (atB L s height depth x) else some y
def stopB (L : List Nd) (s : List Nat) (height depth : Int) (x : Nat × Int) : Bool := decide (x.2 ≤ -10000) || (atB L s height depth x).2.2 == 1073741823
def bestF (L : List Nd) (s : List Nat) (height depth : Int) : Option (Nat × Int × Int) → List (Nat × Int) → Option (Nat × Int × Int)
  | o, [] => o
  | o, x :: r => if stopB L s height depth x = true then stepB L s height depth o x else bestF L s height depth (stepB L s height depth o x) r
/-- the document's: the best place so far, its cost, and whether it is the first round -/
def chosF (L : List Nd) (s : List Nat) (height depth : Int) : Bool → Nat → Int → List (Nat × Int) → Nat × Int
  | _, b, l, [] => (b, l)
  | f, b, l, x :: r =>
    let c := (atB L s height depth x).2.2
    let y : Nat × Int := if c ≤ l ∧ (c < 1073741823 ∨ f = true) then (x.1, c) else (b, l)
    if c = 1073741823 ∨ x.2 ≤ -10000 then y else chosF L s height depth false y.1 y.2 r
theorem chosF_best (L : List Nd) (s : List Nat) (height depth : Int) : ∀ (r : List (Nat × Int)) (y : Nat × Int × Int), y.2.2 < 1073741823 → (∀ x ∈ r, x.2 < 10000) →
    (bestF L s height depth (some y) r).map (fun z => (z.1, z.2.2)) = some (chosF L s height depth false y.1 y.2.2 r)
  | [], y, _, _ => rfl
  | x :: r, y, hy, hr => by
    have hc := costP_le (measP L s x.1 depth).1 height x.2 (hr x List.mem_cons_self)
    unfold bestF chosF
    by_cases h1 : (atB L s height depth x).2.2 ≤ y.2.2
    · have h2 : (atB L s height depth x).2.2 < 1073741823 := by omega
      have e1 : stepB L s height depth (some y) x = some (atB L s height depth x) := by simp only [stepB, if_pos h1]
      rw [e1]
      by_cases h3 : x.2 ≤ -10000
      · rw [if_pos (by simp [stopB, h3])]
        simp [h1, h2, h3]
        rfl
      · have h4 : ¬ ((atB L s height depth x).2.2 = 1073741823) := by omega
        rw [if_neg (by simp only [stopB, Bool.or_eq_true, decide_eq_true_eq, beq_iff_eq]; rintro (h | h); exact h3 h; exact h4 h)]
        rw [chosF_best L s height depth r _ h2 (fun z hz => hr z (List.mem_cons_of_mem _ hz))]
        simp [h1, h2, h3, h4]
        rfl
    · have e1 : stepB L s height depth (some y) x = some y := by simp only [stepB, if_neg h1]
      rw [e1]
      by_cases h3 : (atB L s height depth x).2.2 = 1073741823 ∨ x.2 ≤ -10000
      · rw [if_pos (by simp only [stopB, Bool.or_eq_true, decide_eq_true_eq, beq_iff_eq]; rcases h3 with h | h; exact .inr h; exact .inl h)]
        simp [h1, h3]
      · rw [if_neg (by simp only [stopB, Bool.or_eq_true, decide_eq_true_eq, beq_iff_eq]; rintro (h | h); exact h3 (.inr h); exact h3 (.inl h))]
        rw [chosF_best L s height depth r y hy (fun z hz => hr z (List.mem_cons_of_mem _ hz))]
        simp [h1, h3]
theorem chosF_all (L : List Nd) (s : List Nat) (height depth : Int) (x : Nat × Int) (r : List (Nat × Int)) (hr : ∀ z ∈ x :: r, z.2 < 10000) :
    (bestF L s height depth none (x :: r)).map (fun z => (z.1, z.2.2)) = some (chosF L s height depth true 0 1073741823 (x :: r)) := by
  have hc : (atB L s height depth x).2.2 ≤ 1073741823 := costP_le _ _ _ (hr x List.mem_cons_self)
  have e1 : stepB L s height depth none x = some (atB L s height depth x) := rfl
  unfold bestF chosF
  rw [e1]
  by_cases h3 : (atB L s height depth x).2.2 = 1073741823 ∨ x.2 ≤ -10000
  · rw [if_pos (by simp only [stopB, Bool.or_eq_true, decide_eq_true_eq, beq_iff_eq]; rcases h3 with h | h; exact .inr h; exact .inl h)]
    simp [hc, h3]
    rfl
  · rw [if_neg (by simp only [stopB, Bool.or_eq_true, decide_eq_true_eq, beq_iff_eq]; rintro (h | h); exact h3 (.inr h); exact h3 (.inl h))]
    rw [chosF_best L s height depth r _ (by omega) (fun z hz => hr z (List.mem_cons_of_mem _ hz))]
    simp [hc, h3]
    rfl
end Go.Proofs.Ytkkdopfdoommnaa
namespace Go.Proofs.Ytkkdopfdoommnaa
open Go.ChangeShapes Go.WideShapes Go.ChangeAt Go.RowKit Go.Shelf
attribute [local go_sem] Oper.semAt_some
theorem bestF_app (L : List Nd) (s : List Nat) (h d : Int) : ∀ (pre r : List (Nat × Int)) (o : Option (Nat × Int × Int)), (∀ x ∈ pre, stopB L s h d x = false) → bestF L s h d o (pre ++ r) = bestF L s h d (pre.foldl (stepB L s h d) o) r
  | [], _, _, _ => rfl
  | x :: p, r, o, hp => by
    rw [List.cons_append, bestF, if_neg (by rw [hp x List.mem_cons_self]; decide), bestF_app L s h d p r _ (fun y hy => hp y (List.mem_cons_of_mem _ hy))]
    rfl
theorem bestF_stop {L : List Nd} {s : List Nat} {h d : Int} {x : Nat × Int} (hx : stopB L s h d x = true) (r : List (Nat × Int)) (o : Option (Nat × Int × Int)) : bestF L s h d o (x :: r) = stepB L s h d o x := by
  rw [bestF, if_pos hx]
def bA (o : Option (Nat × Int × Int)) : Int := match o with | none => 0 | some y => (y.1 : Int)
def bS (o : Option (Nat × Int × Int)) : Int := match o with | none => 0 | some y => y.2.1
def bL (o : Option (Nat × Int × Int)) : Int := match o with | none => 0 | some y => y.2.2
/-- what Best tells -/
def bestO (L : List Nd) (s : List Nat) (h d : Int) : Option (Nat × Int × Int) := bestF L s h d none (legalP L s)
def outB (o : Option (Nat × Int × Int)) (c : Int) : List Value := [.int .i64 (bA o), .int .i64 (bS o), .int .i64 (bL o), .int .i64 c]
def bestR (L : List Nd) (s : List Nat) (h d : Int) : Option (Nat × Int × Int) × Int :=
  if colP L s = 0 then (if (dimenB h && dimenB d) = true then (bestO L s h d, 0) else (none, 11)) else (none, colP L s)
structure SixB (W : World) (Z : Nat) (v : Value) (h d : Int) (o : Option (Nat × Int × Int)) : Prop where
  k0 : Boxed W Z 26 v
  k1 : Boxed W (Z + 1) 3 (.int .i64 h)
  k2 : Boxed W (Z + 2) 3 (.int .i64 d)
  k3 : Boxed W (Z + 3) 3 (.int .i64 (bA o))
  k4 : Boxed W (Z + 4) 3 (.int .i64 (bS o))
  k5 : Boxed W (Z + 5) 3 (.int .i64 (bL o))
theorem SixB.below {W W' : World} {Z : Nat} {v : Value} {h d : Int} {o : Option (Nat × Int × Int)} (x : SixB W Z v h d o) (hb : Below W.heap.size W W') : SixB W' Z v h d o :=
  ⟨(hb.block _ x.k0.lt).trans x.k0, (hb.block _ x.k1.lt).trans x.k1, (hb.block _ x.k2.lt).trans x.k2, (hb.block _ x.k3.lt).trans x.k3, (hb.block _ x.k4.lt).trans x.k4, (hb.block _ x.k5.lt).trans x.k5⟩
/-- the three results are written -/
theorem SixB.put {W : World} {Z : Nat} {v : Value} {h d : Int} {o p : Option (Nat × Int × Int)} (x : SixB W Z v h d o) : SixB (((W.setCell ⟨Z + 3, 0, none⟩ (.int .i64 (bA p))).setCell ⟨Z + 4, 0, none⟩ (.int .i64 (bS p))).setCell ⟨Z + 5, 0, none⟩ (.int .i64 (bL p))) Z v h d p :=
  ⟨((x.k0.other (by omega) _).other (by omega) _).other (by omega) _, ((x.k1.other (by omega) _).other (by omega) _).other (by omega) _, ((x.k2.other (by omega) _).other (by omega) _).other (by omega) _, ((Boxed.set _ x.k3).other (by omega) _).other (by omega) _, (Boxed.set _ (x.k4.other (by omega) _)).other (by omega) _, Boxed.set _ ((x.k5.other (by omega) _).other (by omega) _)⟩
def six3 (w : World) (v : Value) (h d : Int) : World := (((((w.alloc (.cells #[v] 26)).alloc (.cells #[.int .i64 h] 3)).alloc (.cells #[.int .i64 d] 3)).alloc (.cells #[.int .i64 0] 3)).alloc (.cells #[.int .i64 0] 3)).alloc (.cells #[.int .i64 0] 3)
theorem six3_boxed (w : World) (v : Value) (h d : Int) : SixB (six3 w v h d) w.heap.size v h d none := by
  have n : ∀ (W : World) (t : TypeId) (x : Value) (k : Nat), k = W.heap.size → Boxed (W.alloc (.cells #[x] t)) k t x := fun W t x k e => by rw [e]; exact Boxed.new W t x
  refine ⟨?_, ?_, ?_, ?_, ?_, ?_⟩
  · exact (((((n w _ v _ rfl).alloc _).alloc _).alloc _).alloc _).alloc _
  · exact ((((n _ _ _ _ (by simp)).alloc _).alloc _).alloc _).alloc _
  · exact (((n _ _ _ _ (by simp)).alloc _).alloc _).alloc _
  · exact ((n _ _ _ _ (by simp)).alloc _).alloc _
  · exact (n _ _ _ _ (by simp)).alloc _
  · exact n _ _ _ _ (by simp)
theorem six3_below (w : World) (v : Value) (h d : Int) : Below w.heap.size w (six3 w v h d) :=
  ((((((Below.refl _ w).alloc (Nat.le_refl _) _).alloc (by simp) _).alloc (by simp; omega) _).alloc (by simp; omega) _).alloc (by simp; omega) _).alloc (by simp; omega) _
theorem abides_six3 {β : Type} {B m Z : Nat} {v : Value} {h d : Int} {f : β → Option (Nat × Int × Int)} (hZ : Z + 5 < B) : Abides B m (fun (s : β) W => SixB W Z v h d (f s)) := fun s A C row hs hg hr =>
  ⟨abides_box (f := fun _ : β => v) (by omega) s A C row hs.k0 hg hr, abides_box (f := fun _ : β => .int .i64 h) (by omega) s A C row hs.k1 hg hr, abides_box (f := fun _ : β => .int .i64 d) (by omega) s A C row hs.k2 hg hr, abides_box (f := fun s : β => .int .i64 (bA (f s))) (by omega) s A C row hs.k3 hg hr, abides_box (f := fun s : β => .int .i64 (bS (f s))) (by omega) s A C row hs.k4 hg hr, abides_box (f := fun s : β => .int .i64 (bL (f s))) (by omega) s A C row hs.k5 hg hr⟩
/-- the best one of those met -/
def metB (L : List Nd) (s : List Nat) (h d : Int) (pre : List (Br L s)) : Option (Nat × Int × Int) := (pre.map (·.1)).foldl (stepB L s h d) none
theorem metB_snoc (L : List Nd) (s : List Nat) (h d : Int) (pre : List (Br L s)) (x : Br L s) : metB L s h d (pre ++ [x]) = stepB L s h d (metB L s h d pre) x.1 := by simp [metB]
/-- between two rounds -/
def BeI (w : World) (Z S Bs : Nat) (v : Value) (h d : Int) {L : List Nd} {s : List Nat} (pre : List (Br L s)) (W : World) : Prop :=
  SixB W Z v h d (metB L s h d pre) ∧ Boxed W S 4 (.bool (metB L s h d pre).isSome) ∧ Boxed W Bs 26 v ∧ Below w.heap.size w W ∧ ∀ x ∈ pre, stopB L s h d x.1 = false
/-- on the way out -/
def BeX (w : World) (Z : Nat) (v : Value) (h d : Int) {L : List Nd} {s : List Nat} (c : Code) (pre : List (Br L s)) (W : World) : Prop :=
  (c = .exit 0 ∧ ∃ (pre' : List (Br L s)) (x : Br L s), pre = pre' ++ [x] ∧ (∀ y ∈ pre', stopB L s h d y.1 = false) ∧ stopB L s h d x.1 = true) ∧ SixB W Z v h d (metB L s h d pre) ∧ Below w.heap.size w W
theorem beI_abides {w : World} {Z S Bs B m : Nat} {v : Value} {h d : Int} {L : List Nd} {s : List Nat} (h1 : Z + 5 < B) (hS : S < B) (h2 : Bs < B) (h3 : w.heap.size ≤ B) : Abides B m (BeI (L := L) (s := s) w Z S Bs v h d) :=
  (abides_six3 h1).and ((abides_box (f := fun pre => .bool (metB L s h d pre).isSome) hS).and ((abides_box (f := fun _ => v) h2).and ((abides_below (Nat.le_refl _) h3).and (Abides.pure _ _ _))))
theorem beX_abides {w : World} {Z B m : Nat} {v : Value} {h d : Int} {L : List Nd} {s : List Nat} (c : Code) (h1 : Z + 5 < B) (h3 : w.heap.size ≤ B) : Abides B m (BeX (L := L) (s := s) w Z v h d c) :=
  (Abides.pure _ _ _).and ((abides_six3 h1).and (abides_below (Nat.le_refl _) h3))
theorem metB_stop {L : List Nd} {s : List Nat} {h d : Int} {pre' : List (Br L s)} {x : Br L s} (hp : (pre' ++ [x]).map (·.1) <+: legalP L s) (h1 : ∀ y ∈ pre', stopB L s h d y.1 = false) (h2 : stopB L s h d x.1 = true) : bestO L s h d = metB L s h d (pre' ++ [x]) := by
  obtain ⟨r, hr⟩ := hp
  rw [metB_snoc, bestO, ← hr, List.map_append, List.append_assoc, bestF_app _ _ _ _ _ _ _ (fun y hy => by obtain ⟨z, hz, rfl⟩ := List.mem_map.1 hy; exact h1 z hz)]
  exact bestF_stop h2 _ _
theorem metB_done {L : List Nd} {s : List Nat} {h d : Int} {ys : List (Br L s)} (hy : ys.map (·.1) = legalP L s) (h1 : ∀ y ∈ ys, stopB L s h d y.1 = false) : bestO L s h d = metB L s h d ys := by
  rw [bestO, ← hy, ← List.append_nil (ys.map (·.1)), bestF_app _ _ _ _ _ _ _ (fun y hy => by obtain ⟨z, hz, rfl⟩ := List.mem_map.1 hy; exact h1 z hz)]
  rfl
end Go.Proofs.Ytkkdopfdoommnaa
namespace Go.Proofs.Ytkkdopfdoommnaa
open Go.RowKit
theorem stepC_any {k : Int} {st st' : List Int} {d d' : Int} (d0 : Int) (h : stepC k st d = some (st', d')) : d ≤ d' ∧ ∃ e, e ≤ max d' d0 ∧ stepC k st d0 = some (st', e) := by
  unfold stepC at h ⊢
  split at h
  · rename_i h1
    rw [if_pos h1]
    split at h
    · cases h
    · split at h
      · cases h
      · rename_i h2
        cases h
        exact ⟨Int.le_refl _, d0, by omega, by simp only [if_neg h2]⟩
  · rename_i h1
    rw [if_neg h1]
    split at h
    · rename_i h3
      rw [if_pos h3]
      split at h
      · cases h
      · split at h
        · cases h
        · rename_i h2
          cases h
          exact ⟨Int.le_refl _, d0, by omega, by simp only [if_neg h2]⟩
    · rename_i h3
      rw [if_neg h3]
      cases hgl : st.getLast? with
      | none =>
        simp only [hgl, Bool.false_eq_true, if_false] at h ⊢
        cases h
        exact ⟨by omega, max d0 (st.length + 1), by omega, rfl⟩
      | some x =>
        simp only [hgl] at h ⊢
        by_cases hb : (decide (0 ≤ x) && !smallK k) = true
        · rw [if_pos hb] at h; cases h
        · rw [if_neg hb] at h ⊢
          cases h
          exact ⟨by omega, max d0 (st.length + 1), by omega, rfl⟩
theorem runC_any : ∀ (l : List Nd) (st st' : List Int) (d d' d0 : Int), runC l st d = some (st', d') → d ≤ d' ∧ ∃ e, e ≤ max d' d0 ∧ runC l st d0 = some (st', e)
  | [], st, st', d, d', d0, h => by
    unfold runC at h ⊢
    cases h
    exact ⟨Int.le_refl _, d0, by omega, rfl⟩
  | n :: l, st, st', d, d', d0, h => by
    unfold runC at h ⊢
    split at h
    · rename_i hr
      rw [if_pos hr]
      obtain ⟨⟨s1, d1⟩, h1, h2⟩ := Option.bind_eq_some_iff.1 h
      obtain ⟨h3, e1, he1, hs1⟩ := stepC_any d0 h1
      obtain ⟨h4, e2, he2, hs2⟩ := runC_any l s1 st' d1 d' e1 h2
      exact ⟨by omega, e2, by omega, by rw [hs1]; exact hs2⟩
    · cases h
theorem items_run {L : List Nd} {i : Nat} {s : List Nat} (h : Items L i s) : ∀ {d d' : Int}, runC (L.drop i) [] d = some ([], d') → ∀ x ∈ s, ∃ d2, runC (L.drop x) [] d2 = some ([], d') := by
  induction h with
  | done => intro d d' _ x hx; cases hx
  | step hi hm hs ih =>
    rename_i i m s
    intro d d' hr x hx
    rcases List.mem_cons.1 hx with rfl | hx
    · exact ⟨d, hr⟩
    · have e := List.drop_eq_getElem_cons hi
      rw [e] at hr
      obtain ⟨m2, d2, hb, hr2⟩ := runC_top hr
      rw [← e] at hb hr2
      rw [hm] at hb
      cases hb
      rw [List.drop_drop] at hr2
      exact ih hr2 x hx
theorem tail_check {L : List Nd} {s : List Nat} (h : checkC L = 0) (hs : Items L 0 s) {x : Nat} (hx : x ∈ s ∨ x = L.length) : checkC (L.drop x) = 0 := by
  obtain ⟨hl, d, hd, hr⟩ := checkC_zero h
  have key : ∃ d2, runC (L.drop x) [] d2 = some ([], d) ∨ L.drop x = [] := by
    rcases hx with hx | hx
    · obtain ⟨d2, h2⟩ := items_run hs (by rw [List.drop_zero]; exact hr) x hx
      exact ⟨d2, .inl h2⟩
    · exact ⟨0, .inr (by rw [hx]; simp)⟩
  obtain ⟨d2, h2 | h2⟩ := key
  · obtain ⟨_, e, he, hre⟩ := runC_any _ _ _ _ _ 0 h2
    unfold checkC
    rw [if_neg (by rw [List.length_drop]; omega), hre]
    simp only [codeC]
    rw [if_neg (by simp), if_neg (by omega)]
  · rw [h2]; rfl
theorem items_shift {L : List Nd} (x : Nat) : ∀ {i : Nat} {r : List Nat}, Items L i r → x ≤ i → Items (L.drop x) (i - x) (r.map (· - x)) := by
  intro i r h
  induction h with
  | done =>
    intro hx
    have : L.length - x = (L.drop x).length := by simp
    rw [this]
    exact .done
  | step hi hm hs ih =>
    rename_i i m s
    intro hx
    refine .step (m := m) (by rw [List.length_drop]; omega) (by rw [List.drop_drop, show x + (i - x) = i by omega]; exact hm) ?_
    have := ih (by omega)
    rwa [show i + m - x = i - x + m by omega] at this
theorem items_from {L : List Nd} {i : Nat} {s : List Nat} (h : Items L i s) : ∀ x ∈ s, ∃ pre r, s = pre ++ r ∧ Items L x r := by
  induction h with
  | done => intro x hx; cases hx
  | step hi hm hs ih =>
    rename_i i m s
    intro x hx
    rcases List.mem_cons.1 hx with rfl | hx
    · exact ⟨[], _, rfl, .step hi hm hs⟩
    · obtain ⟨p, r, e, h⟩ := ih x hx
      exact ⟨i :: p, r, by rw [e]; rfl, h⟩
theorem nth_drop (L : List Nd) (x j : Nat) (h : x ≤ j) : nth (L.drop x) (j - x) = nth L j := by
  unfold nth
  rw [List.getElem?_drop, show x + (j - x) = j by omega]
/-- the tail of a good column is one -/
theorem tail_col {L : List Nd} {s : List Nat} (h : colP L s = 0) (hs : Items L 0 s) {x : Nat} (hx : x ∈ s ∨ x = L.length) : colP (L.drop x) (itemsP (L.drop x)) = 0 := by
  have hc := tail_check (colP_check h) hs hx
  have key : ∃ r : List Nat, Items (L.drop x) 0 (r.map (· - x)) ∧ (∀ y ∈ r, y ∈ s ∧ x ≤ y) := by
    rcases hx with hx | hx
    · obtain ⟨p, r, e, hr⟩ := items_from hs x hx
      have h1 := items_shift x hr (Nat.le_refl _)
      rw [Nat.sub_self] at h1
      exact ⟨r, h1, fun y hy => ⟨by rw [e]; exact List.mem_append_right _ hy, (hr.lt y hy).1⟩⟩
    · refine ⟨[], ?_, fun y hy => by cases hy⟩
      have e : L.drop x = [] := by rw [hx]; simp
      rw [e]
      exact .done
  obtain ⟨r, h1, h2⟩ := key
  rw [← h1.uniq (itemsP_spec hc)]
  unfold colP at h ⊢
  rw [if_pos hc]
  split at h
  · split at h
    · cases h
    · rename_i hb
      split at h
      · rename_i hf
        rw [if_neg, if_pos]
        · rw [List.all_map, List.all_eq_true]
          intro y hy
          rw [Function.comp, nth_drop _ _ _ (h2 y hy).2]
          exact List.all_eq_true.1 hf y (h2 y hy).1
        · intro hcon
          rw [List.any_map] at hcon
          obtain ⟨y, hy, hz⟩ := List.any_eq_true.1 hcon
          rw [Function.comp, nth_drop _ _ _ (h2 y hy).2] at hz
          exact hb (List.any_eq_true.2 ⟨y, (h2 y hy).1, hz⟩)
      · cases h
  · rename_i hn
    exact absurd h hn
end Go.Proofs.Ytkkdopfdoommnaa
