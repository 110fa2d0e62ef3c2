/-
  The breaks of a column lie in order, each place once (plain); what Cost tells.
-/
import Derived.Test.YtaehkbbdmamfpaaGreatDoorL6
import Derived.Test.YtaehkbbdmamfpaaGreatDoorB6
import Derived.Sort.AtCall
import Derived.RegionIn
import Derived.StillTailTactics
import Derived.BigQuiet
namespace Go.Proofs.YtaehkbbdmamfpaaGreatDoor
open Go.RowKit
theorem breaksF_sub (L : List Nd) : ∀ (s : List Nat) (prev : Option Nat), ((breaksF L prev s).map (·.1)).Sublist s
  | [], _ => List.Sublist.refl _
  | i :: s, prev => by
    rw [breaksF, List.map_append]
    unfold brk
    split
    · exact (breaksF_sub L s (some i)).cons_cons i
    · exact (breaksF_sub L s (some i)).cons i
theorem items_pairwise {L : List Nd} {i : Nat} {s : List Nat} (h : Items L i s) : s.Pairwise (· < ·) := by
  induction h with
  | done => exact List.Pairwise.nil
  | step hi hm hs ih =>
    have := behC_pos _ _ _ hm
    refine List.Pairwise.cons (fun x hx => ?_) ih
    have := (hs.lt x hx).1
    omega
theorem legalP_pair {L : List Nd} {s : List Nat} (h : Items L 0 s) : ((legalP L s).map (·.1)).Pairwise (· < ·) := by
  unfold legalP
  rw [List.map_append, List.pairwise_append]
  refine ⟨(items_pairwise h).sublist (breaksF_sub L s none), by simp, fun a ha b hb => ?_⟩
  simp only [List.map_cons, List.map_nil, List.mem_singleton] at hb
  rw [hb]
  exact (h.lt a ((breaksF_sub L s none).subset ha)).2
theorem legalP_at {L : List Nd} {s : List Nat} {j : Nat} (hj : j < (legalP L s).length) : ((legalP L s)[j].1 ∈ s ∨ (legalP L s)[j].1 = L.length) ∧ ((legalP L s)[j] ∈ breaksF L none s ∨ (legalP L s)[j] = (L.length, -10000)) := by
  have hx := List.getElem_mem hj
  generalize (legalP L s)[j] = x at hx
  unfold legalP at hx
  rw [List.mem_append] at hx
  rcases hx with hx | hx
  · exact ⟨.inl (breaksF_mem L s none x hx), .inl hx⟩
  · simp only [List.mem_singleton] at hx
    exact ⟨.inr (by rw [hx]), .inr hx⟩
end Go.Proofs.YtaehkbbdmamfpaaGreatDoor
namespace Go.Proofs.YtaehkbbdmamfpaaGreatDoor
open Go.ChangeShapes Go.WideShapes Go.ChangeAt Go.RowKit
theorem brk_lt {L : List Nd} : ∀ (s : List Nat) (prev : Option Nat) (x : Nat × Int), x ∈ breaksF L prev s → x.2 < 10000
  | [], _, _, h => by cases h
  | i :: s, prev, x, h => by
    rw [breaksF, List.mem_append] at h
    rcases h with h | h
    · unfold brk at h
      split at h
      · rename_i hq
        simp only [List.mem_singleton] at h
        rw [h]; exact hq
      · cases h
    · exact brk_lt s _ x h
theorem legalP_pen {L : List Nd} {s : List Nat} {j : Nat} (hj : j < (legalP L s).length) : (legalP L s)[j].2 < 10000 := by
  rcases (legalP_at hj).2 with h | h
  · exact brk_lt s none _ h
  · rw [h]; show (-10000 : Int) < 10000; decide
end Go.Proofs.YtaehkbbdmamfpaaGreatDoor
namespace Go.Proofs.YtaehkbbdmamfpaaGreatDoor
open Go.ChangeShapes Go.WideShapes Go.ChangeAt Go.RowKit Go.Shelf
attribute [local go_sem] Oper.semAt_some
def six (w : World) (v : Value) (tk h d : Int) : World := (((((w.alloc (.cells #[v] 22)).alloc (.cells #[.int .i64 tk] 3)).alloc (.cells #[.int .i64 h] 3)).alloc (.cells #[.int .i64 d] 3)).alloc (.cells #[.int .i64 0] 3)).alloc (.cells #[.int .i64 0] 26)
end Go.Proofs.YtaehkbbdmamfpaaGreatDoor
namespace Go.Proofs.YtaehkbbdmamfpaaGreatDoor
open Go.RowKit
theorem costP_le (T : Tt) (h q : Int) (hq : q < 10000) : costP T h q ≤ 1073741823 := by
  unfold costP
  split
  · omega
  split
  · omega
  split
  · omega
  · omega
def atB (L : List Nd) (s : List Nat) (height depth : Int) (x : Nat × Int) : Nat × Int × Int :=
  (x.1, (measP L s x.1 depth).1.nat + (measP L s x.1 depth).2, costP (measP L s x.1 depth).1 height x.2)
def stepB (L : List Nd) (s : List Nat) (height depth : Int) (o : Option (Nat × Int × Int)) (x : Nat × Int) : Option (Nat × Int × Int) :=
  match o with
  | none => some (atB L s height depth x)
  | some y => if (atB L s height depth x).2.2 ≤ y.2.2 then some (atB L s height depth x) else some y
def stopB (L : List Nd) (s : List Nat) (height depth : Int) (x : Nat × Int) : Bool := decide (x.2 ≤ -10000) || (atB L s height depth x).2.2 == 1073741823
def bestF (L : List Nd) (s : List Nat) (height depth : Int) : Option (Nat × Int × Int) → List (Nat × Int) → Option (Nat × Int × Int)
  | o, [] => o
  | o, x :: r => if stopB L s height depth x = true then stepB L s height depth o x else bestF L s height depth (stepB L s height depth o x) r
def chosF (L : List Nd) (s : List Nat) (height depth : Int) : Bool → Nat → Int → List (Nat × Int) → Nat × Int
  | _, b, l, [] => (b, l)
  | f, b, l, x :: r =>
    let c := (atB L s height depth x).2.2
    let y : Nat × Int := if c ≤ l ∧ (c < 1073741823 ∨ f = true) then (x.1, c) else (b, l)
    if c = 1073741823 ∨ x.2 ≤ -10000 then y else chosF L s height depth false y.1 y.2 r
theorem chosF_best (L : List Nd) (s : List Nat) (height depth : Int) : ∀ (r : List (Nat × Int)) (y : Nat × Int × Int), y.2.2 < 1073741823 → (∀ x ∈ r, x.2 < 10000) →
    (bestF L s height depth (some y) r).map (fun z => (z.1, z.2.2)) = some (chosF L s height depth false y.1 y.2.2 r)
  | [], y, _, _ => rfl
  | x :: r, y, hy, hr => by
    have hc := costP_le (measP L s x.1 depth).1 height x.2 (hr x List.mem_cons_self)
    unfold bestF chosF
    by_cases h1 : (atB L s height depth x).2.2 ≤ y.2.2
    · have h2 : (atB L s height depth x).2.2 < 1073741823 := by omega
      have e1 : stepB L s height depth (some y) x = some (atB L s height depth x) := by simp only [stepB, if_pos h1]
      rw [e1]
      by_cases h3 : x.2 ≤ -10000
      · rw [if_pos (by simp [stopB, h3])]
        simp [h1, h2, h3]
        rfl
      · have h4 : ¬ ((atB L s height depth x).2.2 = 1073741823) := by omega
        rw [if_neg (by simp only [stopB, Bool.or_eq_true, decide_eq_true_eq, beq_iff_eq]; rintro (h | h); exact h3 h; exact h4 h)]
        rw [chosF_best L s height depth r _ h2 (fun z hz => hr z (List.mem_cons_of_mem _ hz))]
        simp [h1, h2, h3, h4]
        rfl
    · have e1 : stepB L s height depth (some y) x = some y := by simp only [stepB, if_neg h1]
      rw [e1]
      by_cases h3 : (atB L s height depth x).2.2 = 1073741823 ∨ x.2 ≤ -10000
      · rw [if_pos (by simp only [stopB, Bool.or_eq_true, decide_eq_true_eq, beq_iff_eq]; rcases h3 with h | h; exact .inr h; exact .inl h)]
        simp [h1, h3]
      · rw [if_neg (by simp only [stopB, Bool.or_eq_true, decide_eq_true_eq, beq_iff_eq]; rintro (h | h); exact h3 (.inr h); exact h3 (.inl h))]
        rw [chosF_best L s height depth r y hy (fun z hz => hr z (List.mem_cons_of_mem _ hz))]
        simp [h1, h3]
theorem chosF_all (L : List Nd) (s : List Nat) (height depth : Int) (x : Nat × Int) (r : List (Nat × Int)) (hr : ∀ z ∈ x :: r, z.2 < 10000) :
    (bestF L s height depth none (x :: r)).map (fun z => (z.1, z.2.2)) = some (chosF L s height depth true 0 1073741823 (x :: r)) := by
  have hc : (atB L s height depth x).2.2 ≤ 1073741823 := costP_le _ _ _ (hr x List.mem_cons_self)
  have e1 : stepB L s height depth none x = some (atB L s height depth x) := rfl
  unfold bestF chosF
  rw [e1]
  by_cases h3 : (atB L s height depth x).2.2 = 1073741823 ∨ x.2 ≤ -10000
  · rw [if_pos (by simp only [stopB, Bool.or_eq_true, decide_eq_true_eq, beq_iff_eq]; rcases h3 with h | h; exact .inr h; exact .inl h)]
    simp [hc, h3]
    rfl
  · rw [if_neg (by simp only [stopB, Bool.or_eq_true, decide_eq_true_eq, beq_iff_eq]; rintro (h | h); exact h3 (.inr h); exact h3 (.inl h))]
    rw [chosF_best L s height depth r _ (by omega) (fun z hz => hr z (List.mem_cons_of_mem _ hz))]
    simp [hc, h3]
    rfl
end Go.Proofs.YtaehkbbdmamfpaaGreatDoor
namespace Go.Proofs.YtaehkbbdmamfpaaGreatDoor
open Go.ChangeShapes Go.WideShapes Go.ChangeAt Go.RowKit Go.Shelf
attribute [local go_sem] Oper.semAt_some
theorem bestF_app (L : List Nd) (s : List Nat) (h d : Int) : ∀ (pre r : List (Nat × Int)) (o : Option (Nat × Int × Int)), (∀ x ∈ pre, stopB L s h d x = false) → bestF L s h d o (pre ++ r) = bestF L s h d (pre.foldl (stepB L s h d) o) r
  | [], _, _, _ => rfl
  | x :: p, r, o, hp => by
    rw [List.cons_append, bestF, if_neg (by rw [hp x List.mem_cons_self]; decide), bestF_app L s h d p r _ (fun y hy => hp y (List.mem_cons_of_mem _ hy))]
    rfl
theorem bestF_stop {L : List Nd} {s : List Nat} {h d : Int} {x : Nat × Int} (hx : stopB L s h d x = true) (r : List (Nat × Int)) (o : Option (Nat × Int × Int)) : bestF L s h d o (x :: r) = stepB L s h d o x := by
  rw [bestF, if_pos hx]
def bA (o : Option (Nat × Int × Int)) : Int := match o with | none => 0 | some y => (y.1 : Int)
def bS (o : Option (Nat × Int × Int)) : Int := match o with | none => 0 | some y => y.2.1
def bL (o : Option (Nat × Int × Int)) : Int := match o with | none => 0 | some y => y.2.2
def bestO (L : List Nd) (s : List Nat) (h d : Int) : Option (Nat × Int × Int) := bestF L s h d none (legalP L s)
def bestR (L : List Nd) (s : List Nat) (h d : Int) : Option (Nat × Int × Int) × Int :=
  if colP L s = 0 then (if (dimenB h && dimenB d) = true then (bestO L s h d, 0) else (none, 11)) else (none, colP L s)
structure SixB (W : World) (Z : Nat) (v : Value) (h d : Int) (o : Option (Nat × Int × Int)) : Prop where
  k0 : Boxed W Z 22 v
  k1 : Boxed W (Z + 1) 3 (.int .i64 h)
  k2 : Boxed W (Z + 2) 3 (.int .i64 d)
  k3 : Boxed W (Z + 3) 3 (.int .i64 (bA o))
  k4 : Boxed W (Z + 4) 3 (.int .i64 (bS o))
  k5 : Boxed W (Z + 5) 3 (.int .i64 (bL o))
theorem SixB.below {W W' : World} {Z : Nat} {v : Value} {h d : Int} {o : Option (Nat × Int × Int)} (x : SixB W Z v h d o) (hb : Below W.heap.size W W') : SixB W' Z v h d o :=
  ⟨(hb.block _ x.k0.lt).trans x.k0, (hb.block _ x.k1.lt).trans x.k1, (hb.block _ x.k2.lt).trans x.k2, (hb.block _ x.k3.lt).trans x.k3, (hb.block _ x.k4.lt).trans x.k4, (hb.block _ x.k5.lt).trans x.k5⟩
theorem SixB.put {W : World} {Z : Nat} {v : Value} {h d : Int} {o p : Option (Nat × Int × Int)} (x : SixB W Z v h d o) : SixB (((W.setCell ⟨Z + 3, 0, none⟩ (.int .i64 (bA p))).setCell ⟨Z + 4, 0, none⟩ (.int .i64 (bS p))).setCell ⟨Z + 5, 0, none⟩ (.int .i64 (bL p))) Z v h d p :=
  ⟨((x.k0.other (by omega) _).other (by omega) _).other (by omega) _, ((x.k1.other (by omega) _).other (by omega) _).other (by omega) _, ((x.k2.other (by omega) _).other (by omega) _).other (by omega) _, ((Boxed.set _ x.k3).other (by omega) _).other (by omega) _, (Boxed.set _ (x.k4.other (by omega) _)).other (by omega) _, Boxed.set _ ((x.k5.other (by omega) _).other (by omega) _)⟩
def six3 (w : World) (v : Value) (h d : Int) : World := (((((w.alloc (.cells #[v] 22)).alloc (.cells #[.int .i64 h] 3)).alloc (.cells #[.int .i64 d] 3)).alloc (.cells #[.int .i64 0] 3)).alloc (.cells #[.int .i64 0] 3)).alloc (.cells #[.int .i64 0] 3)
theorem six3_boxed (w : World) (v : Value) (h d : Int) : SixB (six3 w v h d) w.heap.size v h d none := by
  have n : ∀ (W : World) (t : TypeId) (x : Value) (k : Nat), k = W.heap.size → Boxed (W.alloc (.cells #[x] t)) k t x := fun W t x k e => by rw [e]; exact Boxed.new W t x
  refine ⟨?_, ?_, ?_, ?_, ?_, ?_⟩
  · exact (((((n w _ v _ rfl).alloc _).alloc _).alloc _).alloc _).alloc _
  · exact ((((n _ _ _ _ (by simp)).alloc _).alloc _).alloc _).alloc _
  · exact (((n _ _ _ _ (by simp)).alloc _).alloc _).alloc _
  · exact ((n _ _ _ _ (by simp)).alloc _).alloc _
  · exact (n _ _ _ _ (by simp)).alloc _
  · exact n _ _ _ _ (by simp)
theorem six3_below (w : World) (v : Value) (h d : Int) : Below w.heap.size w (six3 w v h d) :=
  ((((((Below.refl _ w).alloc (Nat.le_refl _) _).alloc (by simp) _).alloc (by simp; omega) _).alloc (by simp; omega) _).alloc (by simp; omega) _).alloc (by simp; omega) _
theorem abides_six3 {β : Type} {B m Z : Nat} {v : Value} {h d : Int} {f : β → Option (Nat × Int × Int)} (hZ : Z + 5 < B) : Abides B m (fun (s : β) W => SixB W Z v h d (f s)) := fun s A C row hs hg hr =>
  ⟨abides_box (f := fun _ : β => v) (by omega) s A C row hs.k0 hg hr, abides_box (f := fun _ : β => .int .i64 h) (by omega) s A C row hs.k1 hg hr, abides_box (f := fun _ : β => .int .i64 d) (by omega) s A C row hs.k2 hg hr, abides_box (f := fun s : β => .int .i64 (bA (f s))) (by omega) s A C row hs.k3 hg hr, abides_box (f := fun s : β => .int .i64 (bS (f s))) (by omega) s A C row hs.k4 hg hr, abides_box (f := fun s : β => .int .i64 (bL (f s))) (by omega) s A C row hs.k5 hg hr⟩
def metB (L : List Nd) (s : List Nat) (h d : Int) (pre : List (Br L s)) : Option (Nat × Int × Int) := (pre.map (·.1)).foldl (stepB L s h d) none
theorem metB_snoc (L : List Nd) (s : List Nat) (h d : Int) (pre : List (Br L s)) (x : Br L s) : metB L s h d (pre ++ [x]) = stepB L s h d (metB L s h d pre) x.1 := by simp [metB]
def BeI (w : World) (Z S Bs : Nat) (v : Value) (h d : Int) {L : List Nd} {s : List Nat} (pre : List (Br L s)) (W : World) : Prop :=
  SixB W Z v h d (metB L s h d pre) ∧ Boxed W S 4 (.bool (metB L s h d pre).isSome) ∧ Boxed W Bs 22 v ∧ Below w.heap.size w W ∧ ∀ x ∈ pre, stopB L s h d x.1 = false
def BeX (w : World) (Z : Nat) (v : Value) (h d : Int) {L : List Nd} {s : List Nat} (c : Code) (pre : List (Br L s)) (W : World) : Prop :=
  (c = .exit 0 ∧ ∃ (pre' : List (Br L s)) (x : Br L s), pre = pre' ++ [x] ∧ (∀ y ∈ pre', stopB L s h d y.1 = false) ∧ stopB L s h d x.1 = true) ∧ SixB W Z v h d (metB L s h d pre) ∧ Below w.heap.size w W
theorem beI_abides {w : World} {Z S Bs B m : Nat} {v : Value} {h d : Int} {L : List Nd} {s : List Nat} (h1 : Z + 5 < B) (hS : S < B) (h2 : Bs < B) (h3 : w.heap.size ≤ B) : Abides B m (BeI (L := L) (s := s) w Z S Bs v h d) :=
  (abides_six3 h1).and ((abides_box (f := fun pre => .bool (metB L s h d pre).isSome) hS).and ((abides_box (f := fun _ => v) h2).and ((abides_below (Nat.le_refl _) h3).and (Abides.pure _ _ _))))
theorem beX_abides {w : World} {Z B m : Nat} {v : Value} {h d : Int} {L : List Nd} {s : List Nat} (c : Code) (h1 : Z + 5 < B) (h3 : w.heap.size ≤ B) : Abides B m (BeX (L := L) (s := s) w Z v h d c) :=
  (Abides.pure _ _ _).and ((abides_six3 h1).and (abides_below (Nat.le_refl _) h3))
theorem metB_stop {L : List Nd} {s : List Nat} {h d : Int} {pre' : List (Br L s)} {x : Br L s} (hp : (pre' ++ [x]).map (·.1) <+: legalP L s) (h1 : ∀ y ∈ pre', stopB L s h d y.1 = false) (h2 : stopB L s h d x.1 = true) : bestO L s h d = metB L s h d (pre' ++ [x]) := by
  obtain ⟨r, hr⟩ := hp
  rw [metB_snoc, bestO, ← hr, List.map_append, List.append_assoc, bestF_app _ _ _ _ _ _ _ (fun y hy => by obtain ⟨z, hz, rfl⟩ := List.mem_map.1 hy; exact h1 z hz)]
  exact bestF_stop h2 _ _
theorem metB_done {L : List Nd} {s : List Nat} {h d : Int} {ys : List (Br L s)} (hy : ys.map (·.1) = legalP L s) (h1 : ∀ y ∈ ys, stopB L s h d y.1 = false) : bestO L s h d = metB L s h d ys := by
  rw [bestO, ← hy, ← List.append_nil (ys.map (·.1)), bestF_app _ _ _ _ _ _ _ (fun y hy => by obtain ⟨z, hz, rfl⟩ := List.mem_map.1 hy; exact h1 z hz)]
  rfl
end Go.Proofs.YtaehkbbdmamfpaaGreatDoor

namespace Go.Proofs.YtaehkbbdmamfpaaGreatDoor
open Go.ChangeShapes Go.WideShapes Go.ChangeAt Go.RowKit
theorem stepB_form {L : List Nd} {s : List Nat} {h d : Int} {o : Option (Nat × Int × Int)} {x : Nat × Int} {Z : Nat → Prop} (ho : ∀ y, o = some y → Z y.1 ∧ y.2.1 = (measP L s y.1 d).1.nat + (measP L s y.1 d).2) (hx : Z x.1) : ∀ y, stepB L s h d o x = some y → Z y.1 ∧ y.2.1 = (measP L s y.1 d).1.nat + (measP L s y.1 d).2 := by
  intro y hy
  cases o with
  | none => cases hy; exact ⟨hx, rfl⟩
  | some z =>
    simp only [stepB] at hy
    split at hy
    · cases hy; exact ⟨hx, rfl⟩
    · cases hy; exact ho _ rfl
theorem bestF_form {L : List Nd} {s : List Nat} {h d : Int} {Z : Nat → Prop} : ∀ (r : List (Nat × Int)) (o : Option (Nat × Int × Int)), (∀ y, o = some y → Z y.1 ∧ y.2.1 = (measP L s y.1 d).1.nat + (measP L s y.1 d).2) → (∀ x ∈ r, Z x.1) → ∀ y, bestF L s h d o r = some y → Z y.1 ∧ y.2.1 = (measP L s y.1 d).1.nat + (measP L s y.1 d).2
  | [], o, ho, _, y, hy => ho y hy
  | x :: r, o, ho, hr, y, hy => by
    rw [bestF] at hy
    split at hy
    · exact stepB_form ho (hr x List.mem_cons_self) y hy
    · exact bestF_form r _ (stepB_form ho (hr x List.mem_cons_self)) (fun z hz => hr z (List.mem_cons_of_mem _ hz)) y hy
theorem bestO_chos (L : List Nd) (s : List Nat) (h d : Int) : ∃ y : Nat × Int × Int, bestO L s h d = some y ∧ (y.1 ∈ s ∨ y.1 = L.length) ∧ y.2.1 = (measP L s y.1 d).1.nat + (measP L s y.1 d).2 ∧ chosF L s h d true 0 1073741823 (legalP L s) = (y.1, y.2.2) := by
  have hpen : ∀ z ∈ legalP L s, z.2 < 10000 := fun z hz => by
    obtain ⟨j, hj, rfl⟩ := List.getElem_of_mem hz
    exact legalP_pen hj
  have hmem : ∀ z ∈ legalP L s, z.1 ∈ s ∨ z.1 = L.length := fun z hz => by
    obtain ⟨j, hj, rfl⟩ := List.getElem_of_mem hz
    exact (legalP_at hj).1
  have hne : legalP L s ≠ [] := by unfold legalP; simp
  unfold bestO
  generalize legalP L s = P at *
  cases P with
  | nil => exact absurd rfl hne
  | cons x r =>
    have h1 := chosF_all L s h d x r hpen
    cases hb : bestF L s h d none (x :: r) with
    | none => rw [hb] at h1; cases h1
    | some y =>
      rw [hb] at h1
      obtain ⟨h2, h3⟩ := bestF_form (Z := fun t => t ∈ s ∨ t = L.length) (x :: r) none (fun y hy => by cases hy) hmem y hb
      exact ⟨y, rfl, h2, h3, (Option.some.inj h1).symm⟩
end Go.Proofs.YtaehkbbdmamfpaaGreatDoor
