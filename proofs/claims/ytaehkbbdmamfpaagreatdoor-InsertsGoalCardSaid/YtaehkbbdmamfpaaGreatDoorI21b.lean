/-
  Inserts, plain: a beginning of a page is a list, and its account is the beginning of the page's. No statement of the seat stands here.
-/
import Derived.Test.YtaehkbbdmamfpaaGreatDoorC5
import Derived.Test.YtaehkbbdmamfpaaGreatDoorI17
import Derived.Deep.QuietTactic
namespace Go.Proofs.YtaehkbbdmamfpaaGreatDoor
open Go.ChangeShapes Go.WideShapes Go.ChangeAt Go.RowKit
theorem colP_zero {L : List Nd} {s : List Nat} : colP L s = 0 ↔ checkC L = 0 ∧ s.any (fun i => badN (nth L i)) = false ∧ s.all (fun i => firmN (nth L i)) = true := by
  unfold colP
  constructor
  · intro h
    split at h
    · rename_i hc
      split at h
      · cases h
      · rename_i hb
        split at h
        · rename_i hf; exact ⟨hc, by simpa using hb, hf⟩
        · cases h
    · rename_i hc; exact absurd h hc
  · rintro ⟨h1, h2, h3⟩
    rw [if_pos h1, h2, h3]
    simp
theorem fold_pref {L : List Nd} {C : List Cl} {depth : Int} : ∀ (s : List Nat) (p : As × List Sp), p.2 <+: (s.foldl (addI L C depth) p).2
  | [], p => List.prefix_refl _
  | x :: s, p => by
    rw [List.foldl_cons]
    refine List.IsPrefix.trans ?_ (fold_pref s _)
    unfold addI
    split
    · exact List.prefix_append _ _
    · exact List.prefix_refl _
attribute [local go_sem ↓] Go.wp_at_zero Go.wp_at_succ
theorem accR_zero {L : List Nd} {C : List Cl} {goal depth : Int} (h : (accR L C goal depth).2.2 = 0) : accE L C = 0 ∧ (dimenB goal && dimenB depth) = true := by
  unfold accR at h
  split at h
  · rename_i hE
    split at h
    · rename_i hd; exact ⟨hE, hd⟩
    · cases h
  · rename_i hE; exact absurd h hE
theorem accR_fine {L : List Nd} {C : List Cl} {goal depth : Int} (h : accE L C = 0) (hd : (dimenB goal && dimenB depth) = true) : accR L C goal depth = ((accF L C goal depth (itsP L)).2, (accF L C goal depth (itsP L)).1.t, 0) := by
  unfold accR
  rw [if_pos h, if_pos hd]
end Go.Proofs.YtaehkbbdmamfpaaGreatDoor
namespace Go.Proofs.YtaehkbbdmamfpaaGreatDoor
open Go.ChangeShapes Go.WideShapes Go.ChangeAt Go.RowKit
def insL (L : List Nd) : List Nat := (itsP L).filter fun x => decide ((nth L x).kind = 13)
theorem fold_ins {L : List Nd} {C : List Cl} {depth : Int} : ∀ (s : List Nat) (p : As × List Sp), s.foldl (addI L C depth) p = (s.filter fun x => decide ((nth L x).kind = 13)).foldl (addI L C depth) p
  | [], p => rfl
  | x :: s, p => by
    rw [List.foldl_cons, fold_ins s]
    by_cases hk : (nth L x).kind = 13
    · rw [List.filter_cons_of_pos (by simpa using hk), List.foldl_cons]
    · rw [List.filter_cons_of_neg (by simpa using hk)]
      unfold addI
      rw [if_neg hk]
theorem accF_ins (L : List Nd) (C : List Cl) (goal depth : Int) : accF L C goal depth (itsP L) = accF L C goal depth (insL L) := fold_ins _ _
theorem insL_kind {L : List Nd} {x : Nat} (h : x ∈ insL L) : x ∈ itsP L ∧ (nth L x).kind = 13 := by
  unfold insL at h
  rw [List.mem_filter] at h
  exact ⟨h.1, by simpa using h.2⟩
theorem accF_take {L : List Nd} {C : List Cl} {goal depth : Int} {i : Nat} (h : i < (insL L).length) :
    accF L C goal depth ((insL L).take (i + 1)) = ((stepI L C depth (accF L C goal depth ((insL L).take i)).1 (insL L)[i]).1, (accF L C goal depth ((insL L).take i)).2 ++ [(stepI L C depth (accF L C goal depth ((insL L).take i)).1 (insL L)[i]).2]) := by
  rw [List.take_succ_eq_append_getElem h, accF_snoc]
  unfold addI
  rw [if_pos (insL_kind (List.getElem_mem h)).2]
theorem accF_count {L : List Nd} {C : List Cl} {goal depth : Int} : ∀ i, i ≤ (insL L).length → (accF L C goal depth ((insL L).take i)).2.length = i
  | 0, _ => by simp [accF]
  | i + 1, h => by
    rw [accF_take (by omega), List.length_append, accF_count i (by omega)]
    rfl
theorem step_nth {L : List Nd} {C : List Cl} {goal depth : Int} {i : Nat} (h : i < (insL L).length) : (accF L C goal depth (insL L)).2[i]? = some (stepI L C depth (accF L C goal depth ((insL L).take i)).1 (insL L)[i]).2 := by
  have h1 : (accF L C goal depth ((insL L).take (i + 1))).2 <+: (accF L C goal depth (insL L)).2 := by
    unfold accF
    conv => rhs; rw [← List.take_append_drop (i + 1) (insL L), List.foldl_append]
    exact fold_pref _ _
  obtain ⟨r, hr⟩ := h1
  rw [← hr, accF_take h]
  simp only
  rw [List.append_assoc, List.getElem?_append_right (by rw [accF_count i (by omega)]; exact Nat.le_refl _), accF_count i (by omega)]
  simp
structure GoalR (st : As) (hold : Nat → Int) (spl met : Nat → Bool) (left nat : Int) : Prop where
  gleft : left = st.goal
  gnat : nat = st.t.nat
  gmet : ∀ k : Nat, k ≤ 254 → met k = (getI st.met (k : Int)).isSome
  gspl : ∀ k : Nat, k ≤ 254 → spl k = decide (0 < (heldI st (k : Int)).split)
  ghold : ∀ k : Nat, k ≤ 254 → spl k = false → hold k = (heldI st (k : Int)).size
theorem goal_start (goal : Int) : GoalR ⟨goal, 0, [], .zero⟩ (fun _ => 0) (fun _ => false) (fun _ => false) goal 0 :=
  ⟨rfl, rfl, fun _ _ => rfl, fun _ _ => rfl, fun _ _ _ => rfl⟩
theorem Tt.glue_keeps (T : Tt) (g : Gl) : (T.glue g).nat = T.nat := by
  have := glue_nat T g T.nat
  have e : ({ T with nat := T.nat } : Tt) = T := by cases T; rfl
  rw [e] at this
  rw [this]
theorem metI_goal (st : As) (C : List Cl) (k : Int) (b : Bool) (hb : b = (getI st.met k).isSome) : (metI st C k).goal = (if b = true then st.goal else st.goal - scalI (clsAt C k).have_ (clsAt C k).scale - (clsAt C k).skip.nat) ∧ (metI st C k).t.nat = (if b = true then st.t.nat else st.t.nat + (clsAt C k).skip.nat) ∧ (metI st C k).met = st.met := by
  subst hb
  refine ⟨?_, ?_, metI_met _ _ _⟩
  · unfold metI
    split
    · rfl
    · unfold firstI
      simp only
      omega
  · unfold metI
    split
    · rfl
    · unfold firstI
      simp only [Tt.glue_keeps]
theorem held_put {st : As} {met : List (Int × Ho)} {g p : Int} {t : Tt} {k : Nat} {h : Ho} (hm : met = putI st.met (k : Int) h) (a : Nat) : heldI ⟨g, p, met, t⟩ (a : Int) = if a = k then h else heldI st (a : Int) := by
  unfold heldI
  simp only [hm, getI_put]
  by_cases e : a = k
  · subst e; simp
  · rw [if_neg (by omega), if_neg e]
theorem scal_zero (k : Int) : scalI 0 k = 0 := by
  unfold scalI
  split
  · decide
  · rw [if_pos (.inl (by decide))]
theorem goal_step {L : List Nd} {C : List Cl} {depth : Int} {st : As} {x k : Nat} {hold : Nat → Int} {spl met : Nat → Bool} {left nat : Int} (h : GoalR st hold spl met left nat) (hk : (nth L x).sub = (k : Int)) (hk2 : k ≤ 254) {r : As × Sp} (hr : stepI L C depth st x = r)
    {left1 nat1 : Int} (hl : left1 = if met k = true then left else left - scalI (clsAt C k).have_ (clsAt C k).scale - (clsAt C k).skip.nat) (hn : nat1 = if met k = true then nat else nat + (clsAt C k).skip.nat) :
    r.2.goal = left1 - scalI r.2.size (clsAt C k).scale ∧
    ((r.2.what = 1 ∧ spl k = false ∧ r.2.size = (nth L x).h ∧ hold k + r.2.size ≤ (clsAt C k).most ∧ GoalR r.1 (upd hold k (hold k + r.2.size)) spl (upd met k true) (left1 - scalI r.2.size (clsAt C k).scale) nat1) ∨
     (r.2.what = 2 ∧ spl k = false ∧ GoalR r.1 hold (upd spl k true) (upd met k true) (left1 - scalI r.2.size (clsAt C k).scale) nat1) ∨
     (r.2.what = 3 ∧ spl k = true ∧ r.2.size = 0 ∧ GoalR r.1 hold spl (upd met k true) (left1 - scalI r.2.size (clsAt C k).scale) nat1)) := by
  obtain ⟨m1, m2, m3⟩ := metI_goal st C (k : Int) (met k) (h.gmet k hk2)
  have hs := h.gspl k hk2
  have hmet : ∀ (g p : Int) (t : Tt) (hh : Ho) (a : Nat), a ≤ 254 → upd met k true a = (getI (As.mk g p (putI (metI st C (k : Int)).met (k : Int) hh) t).met (a : Int)).isSome := fun g p t hh a ha => by
    simp only [m3, getI_put]
    by_cases e : a = k
    · subst e; rw [upd_at]; simp
    · rw [upd_ne _ _ e, if_neg (by omega), h.gmet a ha]
  have hl' : left1 = (metI st C (k : Int)).goal := by rw [m1, hl, h.gleft]
  have hn' : nat1 = (metI st C (k : Int)).t.nat := by rw [m2, hn, h.gnat]
  subst hr
  unfold stepI
  simp only [hk]
  by_cases h1 : 0 < (heldI st (k : Int)).split
  · rw [if_pos h1]
    rw [decide_eq_true h1] at hs
    simp only [scal_zero, Int.sub_zero]
    refine ⟨hl'.symm, .inr (.inr ⟨trivial, hs, trivial, ?_⟩)⟩
    refine ⟨hl', hn', hmet _ _ _ _, fun a ha => ?_, fun a ha hf => ?_⟩
    · rw [held_put (congrArg (fun z => putI z (k : Int) (heldI st (k : Int))) m3) a, h.gspl a ha]
      by_cases e : a = k
      · subst e; simp
      · rw [if_neg e]
    · rw [held_put (congrArg (fun z => putI z (k : Int) (heldI st (k : Int))) m3) a]
      by_cases e : a = k
      · subst e; rw [hs] at hf; cases hf
      · rw [if_neg e]; exact h.ghold a ha hf
  · rw [if_neg h1]
    rw [decide_eq_false h1] at hs
    have hh := h.ghold k hk2 hs
    by_cases h2 : fitI L depth (metI st C (k : Int)) x (clsAt C (k : Int)) (heldI st (k : Int)).size = true
    · rw [if_pos h2]
      have h3 : (nth L x).h + (heldI st (k : Int)).size ≤ (clsAt C (k : Int)).most := by
        unfold fitI at h2
        simp only [Bool.and_eq_true, decide_eq_true_eq] at h2
        exact h2.2
      refine ⟨by simp only [hl'], .inl ⟨rfl, hs, rfl, by simp only; omega, ?_⟩⟩
      refine ⟨by simp only [hl'], hn', hmet _ _ _ _, fun a ha => ?_, fun a ha hf => ?_⟩
      · rw [held_put (congrArg (fun z => putI z (k : Int) ⟨(heldI st (k : Int)).size + (nth L x).h, (heldI st (k : Int)).split⟩) m3) a, h.gspl a ha]
        by_cases e : a = k
        · subst e; simp
        · rw [if_neg e]
      · rw [held_put (congrArg (fun z => putI z (k : Int) ⟨(heldI st (k : Int)).size + (nth L x).h, (heldI st (k : Int)).split⟩) m3) a]
        by_cases e : a = k
        · subst e; rw [upd_at, if_pos rfl, hh]
        · rw [upd_ne _ _ e, if_neg e]; exact h.ghold a ha hf
    · rw [if_neg h2]
      refine ⟨by simp only [hl'], .inr (.inl ⟨rfl, hs, ?_⟩)⟩
      refine ⟨by simp only [hl'], hn', hmet _ _ _ _, fun a ha => ?_, fun a ha hf => ?_⟩
      · rw [held_put (congrArg (fun z => putI z (k : Int) _) m3) a]
        by_cases e : a = k
        · subst e; rw [upd_at, if_pos rfl]; simp
        · rw [upd_ne _ _ e, if_neg e]; exact h.gspl a ha
      · rw [held_put (congrArg (fun z => putI z (k : Int) _) m3) a]
        by_cases e : a = k
        · subst e; rw [upd_at] at hf; cases hf
        · rw [upd_ne _ _ e] at hf
          rw [if_neg e]; exact h.ghold a ha hf
structure ArrV (W : World) (b : Nat) (ty : TypeId) (f : Nat → Value) : Prop where
  out : ∃ c : Array Value, Blk W b c ty ∧ ∀ k, k ≤ 254 → c[k]? = some (f k)
section
variable {W W' : World} {b : Nat} {ty : TypeId} {f : Nat → Value}
theorem ArrV.cell (h : ArrV W b ty f) {k : Nat} (hk : k ≤ 254) : W.cell? ⟨b, k, none⟩ = some (f k) := by
  obtain ⟨c, hb, hc⟩ := h.out
  rw [cell?_blk' hb, hc k hk]
theorem ArrV.frozen (h : ArrV W b ty f) (k : Nat) : W.frozen? ⟨b, k, none⟩ = false := by
  obtain ⟨c, hb, _⟩ := h.out
  exact hb.frozen k
theorem ArrV.lt (h : ArrV W b ty f) : b < W.heap.size := by
  obtain ⟨c, hb, _⟩ := h.out
  exact hb.lt
theorem ArrV.below (h : ArrV W b ty f) (hb : Below W.heap.size W W') : ArrV W' b ty f := by
  obtain ⟨c, h1, h2⟩ := h.out
  exact ⟨c, h1.below hb, h2⟩
theorem ArrV.other (h : ArrV W b ty f) {q k : Nat} (hq : q ≠ b) (v : Value) : ArrV (W.setCell ⟨q, k, none⟩ v) b ty f := by
  obtain ⟨c, h1, h2⟩ := h.out
  exact ⟨c, h1.other hq v, h2⟩
theorem ArrV.set (h : ArrV W b ty f) {k : Nat} (hk : k ≤ 254) (v : Value) : ArrV (W.setCell ⟨b, k, none⟩ v) b ty (upd f k v) := by
  obtain ⟨c, h1, h2⟩ := h.out
  refine ⟨c.setIfInBounds k v, h1.set k v _ rfl, fun j hj => ?_⟩
  rw [Array.getElem?_setIfInBounds]
  by_cases e : k = j
  · subst e
    rw [if_pos rfl, if_pos (Array.getElem?_eq_some_iff.1 (h2 k hk)).1, upd_at]
  · rw [if_neg e, h2 j hj, upd_ne _ _ (Ne.symm e)]
theorem ArrV.drewN (h : ArrV W b ty f) (n : Nat) : ArrV (W.drewN n) b ty f := by
  obtain ⟨c, h1, h2⟩ := h.out
  exact ⟨c, h1, h2⟩
theorem ArrV.drew (h : ArrV W b ty f) : ArrV W.drew b ty f := by
  obtain ⟨c, h1, h2⟩ := h.out
  exact ⟨c, h1, h2⟩
end
def intsF (f : Nat → Int) : Nat → Value := fun k => .int .i64 (f k)
def boolsF (f : Nat → Bool) : Nat → Value := fun k => .bool (f k)
theorem intsF_upd (f : Nat → Int) (k : Nat) (x : Int) : upd (intsF f) k (.int .i64 x) = intsF (upd f k x) := by
  funext j; show (if j = k then _ else _) = Value.int .i64 (if j = k then x else f j); split <;> rfl
theorem boolsF_upd (f : Nat → Bool) (k : Nat) (x : Bool) : upd (boolsF f) k (.bool x) = boolsF (upd f k x) := by
  funext j; show (if j = k then _ else _) = Value.bool (if j = k then x else f j); split <;> rfl
theorem zero_ints : Tryz.zeroCells46.toList = List.replicate 255 (.int .i64 0) := by kernel_rfl
theorem zero_bools : Tryz.zeroCells47.toList = List.replicate 255 (.bool false) := by kernel_rfl
theorem zero_at {c : Array Value} {v : Value} (h : c.toList = List.replicate 255 v) {k : Nat} (hk : k ≤ 254) : c[k]? = some v := by
  rw [← Array.getElem?_toList, h, List.getElem?_replicate, if_pos (by omega)]
theorem arr_ints (w : World) : ArrV (w.alloc (.cells Tryz.zeroCells46 46)) w.heap.size 46 (intsF fun _ => 0) := ⟨_, heap_alloc_new _ _, fun k hk => zero_at zero_ints hk⟩
theorem arr_bools (w : World) : ArrV (w.alloc (.cells Tryz.zeroCells47 47)) w.heap.size 47 (boolsF fun _ => false) := ⟨_, heap_alloc_new _ _, fun k hk => zero_at zero_bools hk⟩
end Go.Proofs.YtaehkbbdmamfpaaGreatDoor
