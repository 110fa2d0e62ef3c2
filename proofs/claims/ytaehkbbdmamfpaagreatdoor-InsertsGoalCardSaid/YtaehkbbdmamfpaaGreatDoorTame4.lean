/-
  A region that draws its order: loads, whose order has no part in what they hand back, and beside them some operations that follow one another. No statement of the seat stands here.
-/
import Derived.Test.YtaehkbbdmamfpaaGreatDoorTame3
namespace Go.Proofs.YtaehkbbdmamfpaaGreatDoor
open Go.RowKit
section
variable {P : Program} {S : World → Prop} {l : List Oper} {vs : List Value}
theorem putSel_congr : ∀ (L1 L2 : List (Oper × Value × Bool)) (a : Act), L1.length = L2.length → (∀ (i : Nat) (x y : Oper × Value × Bool), L1[i]? = some x → L2[i]? = some y → x.1 = y.1 ∧ x.2.2 = y.2.2 ∧ (x.2.2 = true → x.2.1 = y.2.1)) → putSel a L1 = putSel a L2
  | [], [], _, _, _ => rfl
  | [], _ :: _, _, h, _ => by simp at h
  | _ :: _, [], _, h, _ => by simp at h
  | (o, v, b) :: r, (o', v', b') :: r', a, h, hc => by
    obtain ⟨h1, h2, h3⟩ := hc 0 _ _ rfl rfl
    simp only at h1 h2 h3
    subst h1
    subst h2
    have ih := putSel_congr r r' (if b then a.put o.dst v else a) (by simpa using h) (fun i x y hx hy => hc (i + 1) x y (by simpa using hx) (by simpa using hy))
    rw [putSel, putSel, ih]
    cases b with
    | false => rfl
    | true => rw [h3 rfl]
theorem frm_vs {vs' : List Value} (a : Act) (m : Nat → Bool) (h1 : vs.length = l.length) (h2 : vs'.length = l.length) (h : ∀ j, m j = true → vs[j]? = vs'[j]?) : frm a l vs m = frm a l vs' m := by
  unfold frm
  refine putSel_congr _ _ _ (by simp [h1, h2]) fun i x y hx hy => ?_
  rw [frm_list] at hx hy
  split at hx
  · rename_i o v ho hv
    cases hx
    rw [ho] at hy
    split at hy
    · rename_i o' v' ho' hv'
      cases ho'
      cases hy
      refine ⟨rfl, rfl, fun hm => ?_⟩
      have := h i hm
      rw [hv, hv'] at this
      exact Option.some.inj this
    · cases hy
  · cases hx
theorem wp_frameB {o : Oper} {a b : Act} {w : World} {T : Value → World → Prop} {Q : Exit → Act → World → Prop} {next : Act → World → Prop} (he : execOp b.eval o = execOp a.eval o) (hsz : b.tmps.size = a.tmps.size)
    (h : o.wp P a w (fun a' w' => ∃ u, a' = a.put o.dst u ∧ T u w') QNo) (hn : ∀ u w', T u w' → next (b.put o.dst u) w') : o.wp P b w next Q := by
  unfold Oper.wp at *
  rw [he]
  generalize (execOp a.eval o).run P w = r at *
  cases r with
  | ok n w' =>
    cases n with
    | value u =>
      simp only [Oper.upon] at h ⊢
      obtain ⟨u', h1, h2⟩ := h
      rw [put_inj h1 hsz]; exact hn _ _ h2
    | skip =>
      simp only [Oper.upon] at h ⊢
      obtain ⟨u', h1, h2⟩ := h
      rw [put_inj h1 hsz]; exact hn _ _ h2
    | defer d =>
      simp only [Oper.upon] at h
      obtain ⟨u', h1, _⟩ := h
      have := congrArg (fun x : Act => x.defers.length) h1
      simp [put_defers'] at this
    | enter f args =>
      simp only [Oper.upon] at h ⊢
      refine Calls.mono h (fun e w'' hx => ?_)
      cases e with
      | returned u =>
        simp only at hx ⊢
        obtain ⟨u', h1, h2⟩ := hx
        rw [put_inj h1 hsz]; exact hn _ _ h2
      | panicked c => exact (hx : False).elim
      | outgrown => obtain ⟨_, _, hx⟩ := hx; exact (hx : False).elim
    | row row args =>
      simp only [Oper.upon] at h ⊢
      refine Rows.mono h (fun u w'' hx => ?_)
      obtain ⟨u', h1, h2⟩ := hx
      rw [put_inj h1 hsz]; exact hn _ _ h2
    | _ => exact (h : False).elim
  | halt x w' => cases x <;> simp only [Oper.upon] at h <;> exact (h : False).elim
def bw (P : Program) (l : List Oper) (S : World → Prop) (Qn : Act → World → Prop) : List Oper → Act → World → Prop
  | [], a, w => Qn a w
  | o :: r, a, w => Region.wanted o (yielded l.toArray a.tmps) = true ∧ o.wp P a w (fun a' w' => ∃ u, a' = a.put o.dst u ∧ S w' ∧ bw P l S Qn r a' w') QNo
theorem frm_put' (ht : Tame l) (a : Act) (m : Nat → Bool) (i : Nat) (o : Oper) (u : Value) (hlen : vs.length = l.length) (ho : l[i]? = some o) (hm : m i = false) :
    (frm a l vs m).put o.dst u = frm a l (vs.set i u) (fun j => m j || j == i) := by
  have hl2 : (vs.set i u).length = l.length := by simp [hlen]
  have hi : i < l.length := (List.getElem?_eq_some_iff.1 ho).1
  rw [frm_vs (vs' := vs.set i u) a m hlen hl2 (fun j hj => by
    rw [List.getElem?_set]
    split
    · rename_i h; subst h; rw [hm] at hj; cases hj
    · rfl)]
  exact frm_put hl2 ht.apart a m i o u ho (by rw [List.getElem?_set]; simp [hlen, hi])
theorem count_set {listed : Array Bool} {i : Nat} (hib : i < listed.size) (hif : listed.getD i false = false) : ∀ m, i < m → (List.range m).countP (fun j => !listed.getD j false) = (List.range m).countP (fun j => !(listed.setIfInBounds i true).getD j false) + 1 := by
  intro m
  induction m with
  | zero => intro h; omega
  | succ m ihm =>
    intro hm
    rw [List.range_succ, List.countP_append, List.countP_append, List.countP_singleton, List.countP_singleton]
    by_cases hmi : m = i
    · subst hmi
      have h3 : (List.range m).countP (fun j => !listed.getD j false) = (List.range m).countP (fun j => !(listed.setIfInBounds m true).getD j false) := by
        refine List.countP_congr fun j hj => ?_
        have : j ≠ m := by have := List.mem_range.1 hj; omega
        rw [getD_set listed m j hib]
        simp [this]
      rw [h3, getD_set listed m m hib, hif]
      simp
    · rw [ihm (by omega), getD_set listed i m hib]
      have : (m == i) = false := by simpa using hmi
      rw [this, Bool.or_false]
      omega
end
end Go.Proofs.YtaehkbbdmamfpaaGreatDoor
