/-
  Inserts, plain: what a deal keeps: the page, its boxes and the rest have all that stood there (the law InsertsKept). No statement of the seat stands here.
-/
import Derived.Test.YtaehkbbdmamfpaaGreatDoorI26
import Derived.Test.YtaehkbbdmamfpaaGreatDoorI21
namespace Go.Proofs.YtaehkbbdmamfpaaGreatDoor
open Go.ChangeShapes Go.WideShapes Go.ChangeAt Go.RowKit
/-! ### What does not fall away -/
def fLost (I : List Nd) : List Nd := if fallsK (nth I 0).kind then [] else I
def lostL (A : List Nd) : List Nd := itF fLost A
def fCont (k : Int) (I : List Nd) : List Nd := if (nth I 0).kind = 13 ∧ (nth I 0).sub = k then lostL (insP I 0) else []
def contL (A : List Nd) (k : Int) : List Nd := itF (fCont k) A
def fPlain (I : List Nd) : List Nd := if (nth I 0).kind = 13 then [] else I
theorem top_items (g : Gl) (h : Int) : Items [topN g h] 0 [0] := .step (m := 1) (by simp) (by rfl) .done
theorem top_lost (g : Gl) (h : Int) : lostL [topN g h] = [] := by
  unfold lostL itF
  rw [itsP_eq (top_items g h), List.flatMap_singleton]
  rfl
theorem lost_prun {R : List Nd} {g : Gl} {i : Nat} {s : List Nat} (h : Items R i s) : ∀ acc, Items acc 0 (itsP acc) → lostL (prunF R g s acc) = lostL acc ++ s.flatMap fun x => fLost (itemN R x) := by
  induction h with
  | done => intro acc _; simp [prunF]
  | step hi hm hs ih =>
    rename_i i m s
    intro acc ha
    unfold prunF
    by_cases hk : solidK (nth R i).kind = true
    · rw [if_pos hk]
      have hx := Items.step hi hm hs
      have e : acc ++ topN g (nth R i).h :: R.drop i = acc ++ ([topN g (nth R i).h] ++ R.drop i) := rfl
      have h1 := its_self (top_items g (nth R i).h)
      have h2 := its_self (items_from0 hx)
      rw [e]
      unfold lostL
      rw [itF_app _ ha (its_self (items_app h1 h2)), itF_app _ h1 h2, itF_part _ hx]
      have := top_lost g (nth R i).h
      unfold lostL at this
      rw [this, List.nil_append]
    · rw [if_neg hk, List.flatMap_cons]
      by_cases hf : fallsK (nth R i).kind = true
      · rw [if_pos hf, ih acc ha]
        have : fLost (itemN R i) = [] := by unfold fLost; rw [item_head hm, if_pos hf]
        rw [this, List.nil_append]
      · rw [if_neg hf]
        have h1 : Items (itemN R i) 0 (itsP (itemN R i)) := by rw [item_sl hm]; exact its_self (items_one hm)
        rw [ih _ (its_self (items_app ha h1))]
        unfold lostL
        rw [itF_app _ ha h1, itF_one _ hm, List.append_assoc]
theorem prun_run {R : List Nd} {g : Gl} (hR : RunG 39 R) {s : List Nat} : ∀ {i : Nat}, Items R i s → (∀ x ∈ s, x ∈ itsP R) → ∀ acc, RunG 39 acc → checkC (prunF R g s acc) = 0 → RunG 39 (prunF R g s acc) := by
  intro i h
  induction h with
  | done => intro _ acc ha _; exact ha
  | step hi hm hs ih =>
    rename_i i m s
    intro hsub acc ha hc
    unfold prunF at hc ⊢
    by_cases hk : solidK (nth R i).kind = true
    · rw [if_pos hk] at hc ⊢
      have hr := check_right hc (topN g (nth R i).h) (by simp)
      have ht : RunG 39 [topN g (nth R i).h] := by
        refine ⟨1, by decide, ?_⟩
        unfold runC
        rw [if_pos hr]
        rfl
      exact ha.app (ht.app (hR.cut (by decide) (.inl (hsub i (by simp)))).2)
    · rw [if_neg hk] at hc ⊢
      refine ih (fun x hx => hsub x (by simp [hx])) _ ?_ hc
      split
      · exact ha
      · exact ha.app (hR.item (by decide) (hsub i (by simp)))
theorem right_h {n : Nd} {v : Int} (hn : rightB n = true) (hk : n.kind = 13) (hv : dimenB v = true) : rightB { n with h := v } = true := by
  rw [rightB_at (k := 13) (by decide) (by decide) hk] at hn
  rw [rightB_at (k := 13) (by decide) (by decide) (show ({ n with h := v } : Nd).kind = 13 from hk)]
  simp only [goodN, insB, dims2, restN, Bool.and_eq_true] at hn ⊢
  exact ⟨⟨⟨⟨hn.1.1.1.1, hv, hn.1.1.1.2.2⟩, hn.1.1.2⟩, hn.1.2⟩, hn.2⟩
theorem wrap_beh {n : Nd} {q : List Nd} (hk : n.kind = 13) {D : Int} (hq : RunG D q) : behC ((n :: q) ++ [endN]) 0 = some (q.length + 2) := by
  rw [List.cons_append]
  unfold behC
  have hb : behN n.kind 0 = 1 := by rw [hk]; rfl
  have he : behC [endN] 1 = some 1 := by rfl
  rw [hb, if_neg (by decide), beh_run hq _ (by decide), he]
  simp only [Option.map_some, Option.some.injEq]
  omega
theorem wrap_cont {n : Nd} {q : List Nd} (hk : n.kind = 13) {D : Int} (hq : RunG D q) (k : Int) : contL ((n :: q) ++ [endN]) k = if n.sub = k then lostL q else [] := by
  have hb := wrap_beh hk hq
  have hl : ((n :: q) ++ [endN]).length = q.length + 2 := by simp
  have hi : itemN ((n :: q) ++ [endN]) 0 = (n :: q) ++ [endN] := by
    unfold itemN
    rw [List.drop_zero, hb, Option.getD_some, ← hl, List.take_length]
  have h1 := itF_one (fCont k) (A := (n :: q) ++ [endN]) (x := 0) (m := q.length + 2) (by rw [List.drop_zero]; exact hb)
  rw [hi] at h1
  unfold contL
  rw [h1]
  unfold fCont
  have hh : nth ((n :: q) ++ [endN]) 0 = n := rfl
  rw [hh]
  have hin : insP ((n :: q) ++ [endN]) 0 = q := by
    rw [insP_eq (m := q.length + 2) (by rw [List.drop_zero]; exact hb)]
    unfold sl
    simp
  rw [hin]
  by_cases hs : n.sub = k
  · rw [if_pos ⟨hk, hs⟩, if_pos hs]
  · rw [if_neg (fun h => hs h.2), if_neg hs]
theorem left_kept {n : Nd} {R : List Nd} (hn : rightB n = true) (hk : n.kind = 13) (hR : RunG 39 R) (h0 : (leftP n R).2 = 0) : RunG 40 (leftP n R).1 ∧ ∀ k, contL (leftP n R).1 k = if n.sub = k then lostL R else [] := by
  have hs := hR.its
  have hl := lost_prun (g := n.glue) hs [] (its_self .done)
  have hl0 : lostL R = (itsP R).flatMap fun x => fLost (itemN R x) := rfl
  have hnil : lostL [] = [] := itF_nil _
  rw [hnil, List.nil_append, ← hl0] at hl
  unfold leftP at h0 ⊢
  by_cases h1 : prunC R (itsP R) n.glue = 0
  · rw [if_pos h1] at h0 ⊢
    simp only at h0 ⊢
    by_cases h2 : (prunF R n.glue (itsP R) []).length = 0
    · rw [if_pos h2] at h0 ⊢
      rw [List.length_eq_zero_iff.1 h2, hnil] at hl
      refine ⟨.nil (by decide), fun k => ?_⟩
      show contL [] k = _
      rw [← hl]
      have : contL [] k = [] := itF_nil _
      rw [this]; split <;> rfl
    · rw [if_neg h2] at h0 ⊢
      by_cases h3 : checkC (prunF R n.glue (itsP R) []) = 0
      · rw [if_pos h3] at h0 ⊢
        by_cases h4 : dimenB (natV (prunF R n.glue (itsP R) []) (itsP (prunF R n.glue (itsP R) []))) = true
        · rw [if_pos h4] at h0 ⊢
          have hq := prun_run hR hs (fun x hx => hx) [] (.nil (by decide)) h3
          refine ⟨wrap_run (right_h hn hk h4) hk hq, fun k => ?_⟩
          have := wrap_cont (n := { n with h := natV (prunF R n.glue (itsP R) []) (itsP (prunF R n.glue (itsP R) [])) }) hk hq k
          rw [hl] at this
          exact this
        · rw [if_neg h4] at h0; cases h0
      · rw [if_neg h3] at h0; exact absurd h0 h3
  · rw [if_neg h1] at h0; exact absurd h0 h1
/-! ### A column, however long -/
def ColG (A : List Nd) : Prop := RunG 40 A ∧ ∀ x ∈ itsP A, badN (nth A x) = false ∧ firmN (nth A x) = true
theorem colG_of {A : List Nd} (h : colQ A = 0) : ColG A := by
  obtain ⟨h1, h2, h3⟩ := colP_zero.1 h
  refine ⟨(check_run.1 h1).2, fun x hx => ⟨?_, ?_⟩⟩
  · cases hb : badN (nth A x)
    · rfl
    · have : (itsP A).any (fun i => badN (nth A i)) = true := List.any_eq_true.2 ⟨x, hx, hb⟩
      rw [this] at h2; cases h2
  · exact List.all_eq_true.1 h3 x hx
theorem ColG.zero {A : List Nd} (h : ColG A) (hl : A.length ≤ 2000) : colQ A = 0 := by
  refine colP_zero.2 ⟨check_run.2 ⟨hl, h.1⟩, ?_, List.all_eq_true.2 fun x hx => (h.2 x hx).2⟩
  cases hb : (itsP A).any (fun i => badN (nth A i))
  · rfl
  · obtain ⟨x, hx, h1⟩ := List.any_eq_true.1 hb
    rw [(h.2 x hx).1] at h1; cases h1
theorem ColG.nil : ColG [] := ⟨.nil (by decide), fun x hx => by
  rw [itsP_eq (L := []) .done] at hx; cases hx⟩
theorem ColG.app {A B : List Nd} (ha : ColG A) (hb : ColG B) : ColG (A ++ B) := by
  refine ⟨ha.1.app hb.1, fun x hx => ?_⟩
  rw [itsP_eq (items_app ha.1.its hb.1.its)] at hx
  rcases List.mem_append.1 hx with h | h
  · have hlt := (ha.1.its.lt x h).2
    have : nth (A ++ B) x = nth A x := by unfold nth; rw [List.getElem?_append_left hlt]
    rw [this]; exact ha.2 x h
  · obtain ⟨y, hy, rfl⟩ := List.mem_map.1 h
    have : nth (A ++ B) (A.length + y) = nth B y := by unfold nth; rw [List.getElem?_append_right (by omega), Nat.add_sub_cancel_left]
    rw [this]; exact hb.2 y hy
theorem ColG.take {A : List Nd} (ha : ColG A) {t : Nat} (ht : t ∈ itsP A ∨ t = A.length) : ColG (A.take t) := by
  refine ⟨(ha.1.cut (by decide) ht).1, fun x hx => ?_⟩
  rw [itsP_eq (items_take ha.1.its ht)] at hx
  have hx2 : x ∈ itsP A := (List.takeWhile_sublist _).subset hx
  have hxt := ((items_take ha.1.its ht).lt x hx).2
  have : nth (A.take t) x = nth A x := by
    rw [List.length_take] at hxt
    unfold nth; rw [List.getElem?_take_of_lt (by omega)]
  rw [this]; exact ha.2 x hx2
theorem itF_cut (f : List Nd → List Nd) {A : List Nd} (ha : Items A 0 (itsP A)) {t : Nat} (ht : t ∈ itsP A ∨ t = A.length) : itF f (A.take t) ++ itF f (A.drop t) = itF f A := by
  have h1 := its_self (items_take ha ht)
  have h2 : Items (A.drop t) 0 (itsP (A.drop t)) := by
    rcases ht with h | h
    · obtain ⟨d, r, e⟩ := List.append_of_mem h
      have key : ∀ {d : List Nat} {i : Nat} {r : List Nat}, Items A i (d ++ t :: r) → Items A t (t :: r) := by
        intro d
        induction d with
        | nil => intro i r h; cases h with | step hi hm hs => exact .step hi hm hs
        | cons a d ih => intro i r h; cases h with | step hi hm hs => exact ih hs
      rw [e] at ha
      exact its_self (items_from0 (key ha))
    · subst h
      rw [List.drop_length]
      exact its_self .done
  have := itF_app f h1 h2
  rw [List.take_append_drop] at this
  exact this.symm
/-! ### The boxes -/
def boxK (B : List (List Nd)) (k : Nat) : List Nd := (B[k]?).getD []
theorem box_pad (B : List (List Nd)) (c k : Nat) : boxK (padI B c) k = boxK B k := by
  unfold boxK padI
  by_cases h : k < B.length
  · rw [List.getElem?_append_left h]
  · rw [List.getElem?_append_right (by omega), List.getElem?_eq_none (by omega : B.length ≤ k), List.getElem?_replicate]
    split <;> rfl
theorem box_put {B : List (List Nd)} {c : Nat} (hc : c < B.length) (y : List Nd) (k : Nat) : boxK (putB B c y) k = if k = c then boxK B c ++ y else boxK B k := by
  unfold boxK putB
  rw [List.getElem?_set]
  by_cases e : k = c
  · subst e; rw [if_pos rfl, if_pos hc, if_pos rfl]; rfl
  · rw [if_neg (Ne.symm e), if_neg e]
structure KInv (A : List Nd) (pre : List Nat) (st : As) (d : Dl) : Prop where
  rest : RunG 40 d.rest
  box : ∀ k, ColG (boxK d.boxes k)
  len : ∀ k, (boxK d.boxes k).length ≤ (pre.map fun x => (itemN A x).length).sum
  cont : ∀ k : Nat, lostL (boxK d.boxes k) ++ contL d.rest (k : Int) = pre.flatMap fun x => fCont (k : Int) (itemN A x)
  none : ∀ k : Nat, (heldI st (k : Int)).split ≤ 0 → contL d.rest (k : Int) = []
theorem KInv.start (A : List Nd) (st : As) : KInv A [] st ⟨[], []⟩ := by
  have h1 : ∀ k, boxK [] k = [] := fun k => by unfold boxK; simp
  refine ⟨.nil (by decide), fun k => ?_, fun k => ?_, fun k => ?_, fun k _ => itF_nil _⟩
  · show ColG (boxK [] k); rw [h1]; exact .nil
  · show (boxK [] k).length ≤ _; rw [h1]; simp
  · show lostL (boxK [] k) ++ contL [] k = _
    rw [h1]
    have e1 : lostL [] = [] := itF_nil _
    have e2 : contL [] (k : Int) = [] := itF_nil _
    rw [e1, e2]; rfl
theorem cont_app {A B : List Nd} {D : Int} (ha : RunG D A) (hb : RunG D B) (k : Int) : contL (A ++ B) k = contL A k ++ contL B k := itF_app _ ha.its hb.its
theorem lost_app {A B : List Nd} {D : Int} (ha : RunG D A) (hb : RunG D B) : lostL (A ++ B) = lostL A ++ lostL B := itF_app _ ha.its hb.its
theorem KInv.skip {A : List Nd} {pre : List Nat} {st : As} {d : Dl} (h : KInv A pre st d) {x m : Nat} (hm : behC (A.drop x) 0 = some m) (hk : (nth A x).kind ≠ 13) : KInv A (pre ++ [x]) st d := by
  refine ⟨h.rest, h.box, fun k => ?_, fun k => ?_, h.none⟩
  · have := h.len k
    simp only [List.map_append, List.sum_append]; omega
  · rw [h.cont k, List.flatMap_append, List.flatMap_singleton]
    have : fCont (k : Int) (itemN A x) = [] := by unfold fCont; rw [item_head hm, if_neg (fun h => hk h.1)]
    rw [this, List.append_nil]
theorem step_at2 {L : List Nd} {C : List Cl} {depth : Int} {st : As} {x : Nat} (hX : colQ (insP L x) = 0) (hd : dimenB (nth L x).d = true) : ∃ q : Nat, (stepI L C depth st x).2.split = (q : Int) ∧ ((stepI L C depth st x).2.what = 2 → q ∈ itsP (insP L x) ∨ q = (insP L x).length) := by
  unfold stepI
  simp only
  split
  · exact ⟨0, rfl, (fun h => by cases h)⟩
  split
  · exact ⟨0, rfl, (fun h => by cases h)⟩
  · obtain ⟨_, y, hy, hyl⟩ := best_nb (colQ_check hX) (its_of (colQ_check hX)) (wideI (clsAt C (nth L x).sub) (roomI L depth (metI st C (nth L x).sub) x) (heldI st (nth L x).sub).size) (nth L x).d hd
    refine ⟨y.1, ?_, fun _ => hyl⟩
    show bA (bestO _ _ _ _) = _
    rw [hy]; rfl
theorem step_after {L : List Nd} {C : List Cl} {depth : Int} {st : As} {x c : Nat} (hc : (nth L x).sub = (c : Int)) :
    ((stepI L C depth st x).2.what = 3 → 0 < (heldI st (c : Int)).split) ∧ ((stepI L C depth st x).2.what ≠ 3 → (heldI st (c : Int)).split ≤ 0) ∧
    (∀ k : Nat, k ≠ c → heldI (stepI L C depth st x).1 (k : Int) = heldI st (k : Int)) ∧
    ((heldI (stepI L C depth st x).1 (c : Int)).split ≤ 0 → (stepI L C depth st x).2.what = 1) := by
  have hm := metI_met st C (c : Int)
  unfold stepI
  simp only [hc]
  by_cases h1 : 0 < (heldI st (c : Int)).split
  · rw [if_pos h1]
    refine ⟨fun _ => h1, fun h => absurd rfl h, fun k hk => ?_, fun h => ?_⟩
    · rw [held_put (congrArg (fun z => putI z (c : Int) (heldI st (c : Int))) hm) k, if_neg hk]
    · rw [held_put (congrArg (fun z => putI z (c : Int) (heldI st (c : Int))) hm) c, if_pos rfl] at h
      omega
  · rw [if_neg h1]
    have h1' : (heldI st (c : Int)).split ≤ 0 := by omega
    by_cases h2 : fitI L depth (metI st C (c : Int)) x (clsAt C (c : Int)) (heldI st (c : Int)).size = true
    · rw [if_pos h2]
      refine ⟨(fun h => by cases h), fun _ => h1', fun k hk => ?_, fun _ => rfl⟩
      rw [held_put (congrArg (fun z => putI z (c : Int) _) hm) k, if_neg hk]
    · rw [if_neg h2]
      refine ⟨(fun h => by cases h), fun _ => h1', fun k hk => ?_, fun h => ?_⟩
      · rw [held_put (congrArg (fun z => putI z (c : Int) _) hm) k, if_neg hk]
      · rw [held_put (congrArg (fun z => putI z (c : Int) _) hm) c, if_pos rfl] at h
        exact absurd h (by show ¬ (1 : Int) ≤ 0; decide)
theorem KInv.ins {L A : List Nd} {C : List Cl} {depth : Int} {pre : List Nat} {st : As} {d d' : Dl} (h : KInv A pre st d) (hA : RunG 40 A) {x : Nat} (hx : x ∈ itsP A) (hk : (nth A x).kind = 13) (hX : colQ (insP A x) = 0) (hr : rightB (nth A x) = true)
    {c : Nat} (hc : (nth A x).sub = (c : Int)) (hd : dimenB (nth A x).d = true) (hn : nth L x = nth A x) (hi : insP L x = insP A x) (hit : itemN L x = itemN A x) (hD : dealS L d (stepI A C depth st x).2 = .ok d') :
    KInv A (pre ++ [x]) (stepI A C depth st x).1 d' := by
  obtain ⟨m, hm⟩ := hA.its.at_ x hx
  obtain ⟨a1, a2, a3, a4⟩ := step_after (L := A) (C := C) (depth := depth) (st := st) hc
  obtain ⟨s1, s2, s3⟩ := step_what A C depth st x
  obtain ⟨q, hq, hq2⟩ := step_at2 (C := C) (depth := depth) (st := st) hX hd
  obtain ⟨r, hrr⟩ : ∃ r, stepI A C depth st x = r := ⟨_, rfl⟩
  rw [hrr] at a1 a2 a3 a4 s1 s2 s3 hq hq2 hD ⊢
  rw [dealS_at s1 (s2.trans hc) hq, hn, hi, hit] at hD
  have hcol := colG_of hX
  have hrun := ins_run hA hx hk (by obtain ⟨e, _, h2⟩ := hcol.1; exact ⟨e, h2⟩)
  have hin : RunG 40 (itemN A x) := hA.item (by decide) hx
  have hfc : ∀ k : Nat, fCont (k : Int) (itemN A x) = if k = c then lostL (insP A x) else [] := fun k => by
    unfold fCont
    rw [item_head hm, item_ins hm]
    by_cases e : k = c
    · subst e; rw [if_pos ⟨hk, hc⟩, if_pos rfl]
    · rw [if_neg (fun h => e (by have := hc.symm.trans h.2; omega)), if_neg e]
  have hone : ∀ k : Int, contL (itemN A x) k = fCont k (itemN A x) := fun k => itF_one _ hm
  have hil : (insP A x).length ≤ (itemN A x).length := by
    have hp := behC_pos _ _ _ hm
    rw [List.length_drop] at hp
    rw [insP_eq hm, item_sl hm, sl_len (by omega)]
    unfold sl
    simp only [List.length_take, List.length_drop]
    omega
  have hsum : ((pre ++ [x]).map fun y => (itemN A y).length).sum = (pre.map fun y => (itemN A y).length).sum + (itemN A x).length := by simp
  have hfl : ∀ k : Nat, (pre ++ [x]).flatMap (fun y => fCont (k : Int) (itemN A y)) = (pre.flatMap fun y => fCont (k : Int) (itemN A y)) ++ fCont (k : Int) (itemN A x) := fun k => by rw [List.flatMap_append, List.flatMap_singleton]
  by_cases h1 : r.2.what = 1
  · rw [if_pos h1] at hD
    cases hD
    have hsp := a2 (by rw [h1]; decide)
    have hbx : ∀ k, boxK (putB (padI d.boxes c) c (insP A x)) k = if k = c then boxK d.boxes c ++ insP A x else boxK d.boxes k := fun k => by rw [box_put (padI_at _ _), box_pad, box_pad]
    refine ⟨h.rest, fun k => ?_, fun k => ?_, fun k => ?_, fun k hs => ?_⟩
    · show ColG (boxK (putB (padI d.boxes c) c (insP A x)) k)
      rw [hbx]
      split
      · exact (h.box c).app hcol
      · exact h.box k
    · show (boxK (putB (padI d.boxes c) c (insP A x)) k).length ≤ _
      rw [hbx, hsum]
      have l1 := h.len c
      have l2 := h.len k
      split
      · rw [List.length_append]; omega
      · omega
    · show lostL (boxK (putB (padI d.boxes c) c (insP A x)) k) ++ contL d.rest (k : Int) = _
      rw [hbx, hfl, hfc, ← h.cont k]
      by_cases e : k = c
      · subst e
        rw [if_pos rfl, if_pos rfl, h.none k hsp, List.append_nil, List.append_nil, lost_app (h.box k).1 hcol.1]
      · rw [if_neg e, if_neg e, List.append_nil]
    · show contL d.rest (k : Int) = []
      by_cases e : k = c
      · subst e; exact h.none k hsp
      · rw [a3 k e] at hs; exact h.none k hs
  rw [if_neg h1] at hD
  by_cases h3 : r.2.what = 3
  · rw [if_pos h3] at hD
    cases hD
    have hsp := a1 h3
    refine ⟨h.rest.app hin, fun k => ?_, fun k => ?_, fun k => ?_, fun k hs => ?_⟩
    · show ColG (boxK (padI d.boxes c) k); rw [box_pad]; exact h.box k
    · show (boxK (padI d.boxes c) k).length ≤ _
      rw [box_pad, hsum]; have := h.len k; omega
    · show lostL (boxK (padI d.boxes c) k) ++ contL (d.rest ++ itemN A x) (k : Int) = _
      rw [box_pad, cont_app h.rest hin, hone, hfl, ← h.cont k, List.append_assoc]
    · show contL (d.rest ++ itemN A x) (k : Int) = []
      rw [cont_app h.rest hin, hone, hfc]
      by_cases e : k = c
      · subst e; exact absurd (a4 hs) h1
      · rw [if_neg e, List.append_nil]
        rw [a3 k e] at hs; exact h.none k hs
  rw [if_neg h3] at hD
  have h2 : r.2.what = 2 := by omega
  have hpl := hq2 h2
  have hsp := a2 h3
  obtain ⟨hc1, hc2⟩ := hrun.cut (by decide) hpl
  split at hD
  · rename_i hl0
    cases hD
    obtain ⟨g1, g2⟩ := left_kept hr hk hc2 hl0
    have hcut := itF_cut fLost hrun.its hpl
    have htk : ColG ((insP A x).take q) := hcol.take hpl
    have hbx : ∀ k, boxK (putB (padI d.boxes c) c ((insP A x).take q)) k = if k = c then boxK d.boxes c ++ (insP A x).take q else boxK d.boxes k := fun k => by rw [box_put (padI_at _ _), box_pad, box_pad]
    have hlc : ∀ k : Nat, contL (leftP (nth A x) ((insP A x).drop q)).1 (k : Int) = if k = c then lostL ((insP A x).drop q) else [] := fun k => by
      rw [g2, hc]
      by_cases e : k = c
      · subst e; rw [if_pos rfl, if_pos rfl]
      · rw [if_neg (by omega), if_neg e]
    refine ⟨h.rest.app g1, fun k => ?_, fun k => ?_, fun k => ?_, fun k hs => ?_⟩
    · show ColG (boxK (putB (padI d.boxes c) c ((insP A x).take q)) k)
      rw [hbx]
      split
      · exact (h.box c).app htk
      · exact h.box k
    · show (boxK (putB (padI d.boxes c) c ((insP A x).take q)) k).length ≤ _
      rw [hbx, hsum]
      have l1 := h.len c
      have l2 := h.len k
      split
      · rw [List.length_append, List.length_take]; omega
      · omega
    · show lostL (boxK (putB (padI d.boxes c) c ((insP A x).take q)) k) ++ contL (d.rest ++ (leftP (nth A x) ((insP A x).drop q)).1) (k : Int) = _
      rw [hbx, hfl, hfc, cont_app h.rest g1, hlc, ← h.cont k]
      by_cases e : k = c
      · subst e
        rw [if_pos rfl, if_pos rfl, if_pos rfl, h.none k hsp, List.append_nil, List.nil_append, lost_app (h.box k).1 htk.1, List.append_assoc]
        congr 1
      · rw [if_neg e, if_neg e, if_neg e, List.append_nil, List.append_nil]
    · show contL (d.rest ++ (leftP (nth A x) ((insP A x).drop q)).1) (k : Int) = []
      by_cases e : k = c
      · subst e; exact absurd (a4 hs) h1
      · rw [cont_app h.rest g1, hlc, if_neg e, List.append_nil]
        rw [a3 k e] at hs; exact h.none k hs
  · cases hD
/-! ### All steps -/
def stepsR (A : List Nd) (C : List Cl) (depth : Int) : As → List Nat → List Sp
  | _, [] => []
  | st, x :: s => if (nth A x).kind = 13 then (stepI A C depth st x).2 :: stepsR A C depth (stepI A C depth st x).1 s else stepsR A C depth st s
theorem fold_stepsR {A : List Nd} {C : List Cl} {depth : Int} : ∀ (s : List Nat) (st : As) (acc : List Sp), (s.foldl (addI A C depth) (st, acc)).2 = acc ++ stepsR A C depth st s
  | [], st, acc => by simp [stepsR]
  | x :: s, st, acc => by
    rw [List.foldl_cons]
    unfold addI stepsR
    by_cases hk : (nth A x).kind = 13
    · rw [if_pos hk, if_pos hk]
      have := fold_stepsR (A := A) (C := C) (depth := depth) s (stepI A C depth st x).1 (acc ++ [(stepI A C depth st x).2])
      unfold addI at this
      rw [this, List.append_assoc]
      rfl
    · rw [if_neg hk, if_neg hk]
      have := fold_stepsR (A := A) (C := C) (depth := depth) s st acc
      unfold addI at this
      exact this
theorem kinv_all {L : List Nd} {t : Nat} {C : List Cl} {depth : Int} (ht : t ≤ L.length) (hok : AccOk (L.take t) C) : ∀ (s2 pre : List Nat) (st : As) (d D : Dl), itsP (L.take t) = pre ++ s2 → KInv (L.take t) pre st d → dealF L (stepsR (L.take t) C depth st s2) d = .ok D → ∃ st', KInv (L.take t) (itsP (L.take t)) st' D
  | [], pre, st, d, D, hs, h, hD => by
    rw [List.append_nil] at hs
    cases hD
    rw [hs]
    exact ⟨st, h⟩
  | x :: s2, pre, st, d, D, hs, h, hD => by
    have hck := colQ_check hok.col
    have hA : RunG 40 (L.take t) := (check_run.1 hck).2
    have hx : x ∈ itsP (L.take t) := by rw [hs]; simp
    obtain ⟨m, hm⟩ := hA.its.at_ x hx
    have hlt := (hA.its.lt x hx).2
    have hxt : x < t := by rw [List.length_take] at hlt; omega
    have hs' : itsP (L.take t) = (pre ++ [x]) ++ s2 := by rw [hs]; simp
    unfold stepsR at hD
    by_cases hk : (nth (L.take t) x).kind = 13
    · rw [if_pos hk] at hD
      obtain ⟨d', h1, h2⟩ := dealF_cons hD
      obtain ⟨⟨n1, n2⟩, _, nd, _, _⟩ := ins_nb hck hlt hk
      obtain ⟨b1, b2⟩ := take_beh hlt hm
      refine kinv_all ht hok s2 (pre ++ [x]) _ d' D hs' (h.ins hA hx hk (hok.ins x hx hk) ?_ (c := (nth (L.take t) x).sub.toNat) (by omega) nd ?_ (take_ins hlt hm).symm ?_ h1) h2
      · rw [nth_get hlt]; exact check_right hck _ (List.getElem_mem hlt)
      · unfold nth; rw [List.getElem?_take_of_lt hxt]
      · rw [item_sl hm, item_sl b1]
        unfold sl
        rw [List.drop_take, List.take_take]
        congr 1; omega
    · rw [if_neg hk] at hD
      exact kinv_all ht hok s2 (pre ++ [x]) st d D hs' (h.skip hm hk) hD
theorem flat_sum (A : List Nd) (s : List Nat) : (s.flatMap (itemN A)).length = (s.map fun x => (itemN A x).length).sum := by
  induction s with
  | nil => rfl
  | cons x s ih => rw [List.flatMap_cons, List.length_append, ih, List.map_cons, List.sum_cons]
theorem deal_kept {L : List Nd} {t : Nat} {C : List Cl} {goal depth : Int} {D : Dl} (ht : t ∈ itsP L ∨ t = L.length) (hL : colQ L = 0) (hA : (accR (L.take t) C goal depth).2.2 = 0) (hD : dealF L (accR (L.take t) C goal depth).1 ⟨[], []⟩ = .ok D) :
    RunG 40 D.rest ∧ (∀ k, colQ (boxK D.boxes k) = 0) ∧ ∀ k : Nat, lostL (boxK D.boxes k) ++ contL D.rest (k : Int) = contL (L.take t) (k : Int) := by
  have htl : t ≤ L.length := by
    rcases ht with h | h
    · exact Nat.le_of_lt ((its_of (colQ_check hL)).lt _ h).2
    · omega
  obtain ⟨h1, h2⟩ := accR_zero hA
  have hok := accE_ok h1
  have hf := accR_fine h1 h2
  have hf2 : (accR (L.take t) C goal depth).1 = stepsR (L.take t) C depth ⟨goal, 0, [], .zero⟩ (itsP (L.take t)) := by
    rw [hf]
    show (accF (L.take t) C goal depth (itsP (L.take t))).2 = _
    unfold accF
    rw [fold_stepsR, List.nil_append]
  rw [hf2] at hD
  obtain ⟨st', hi⟩ := kinv_all htl hok (itsP (L.take t)) [] _ _ _ (by simp) (KInv.start _ _) hD
  have hrun := (check_run.1 (colQ_check hok.col)).2
  have hsum : ((itsP (L.take t)).map fun x => (itemN (L.take t) x).length).sum ≤ 2000 := by
    rw [← flat_sum, items_flat hrun.its, List.drop_zero]
    exact (check_run.1 (colQ_check hok.col)).1
  exact ⟨hi.rest, fun k => (hi.box k).zero (by have := hi.len k; omega), fun k => hi.cont k⟩
end Go.Proofs.YtaehkbbdmamfpaaGreatDoor
