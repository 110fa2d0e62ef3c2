/-
  What is a list has items, one behind the other (plain).
-/
import Derived.Test.YtkkdopfdoommnaaV8
namespace Go.Proofs.Ytkkdopfdoommnaa

theorem stepC_len {k : Int} {st st' : List Int} {d d' : Int} (h : stepC k st d = some (st', d')) : (st'.length : Int) = behN k st.length ∧ (st = [] → k ≠ 6 ∧ k ≠ 11) := by
  unfold stepC at h
  unfold behN
  split at h
  · rename_i h6
    subst h6
    cases hl : st.getLast? with
    | none => rw [hl] at h; cases h
    | some x =>
      rw [hl] at h
      simp only at h
      split at h
      · cases h
      · simp only [Option.some.injEq, Prod.mk.injEq] at h
        obtain ⟨rfl, _⟩ := h
        have hne : st ≠ [] := by intro e; rw [e] at hl; cases hl
        have := List.length_pos_iff.2 hne
        refine ⟨?_, fun e => absurd e hne⟩
        rw [List.length_dropLast]
        simp [opensK]; omega
  · rename_i h6
    split at h
    · rename_i h11
      subst h11
      cases hl : st.getLast? with
      | none => rw [hl] at h; cases h
      | some x =>
        rw [hl] at h
        simp only at h
        split at h
        · cases h
        · simp only [Option.some.injEq, Prod.mk.injEq] at h
          obtain ⟨rfl, _⟩ := h
          have hne : st ≠ [] := by intro e; rw [e] at hl; cases hl
          refine ⟨?_, fun e => absurd e hne⟩
          rw [List.length_set]
          simp [opensK]
    · rename_i h11
      refine ⟨?_, fun _ => ⟨h6, h11⟩⟩
      have h2 : ∀ bad : Bool, (if bad = true then none else some (if opensK k = true then st ++ [if k = 10 then (2 : Int) else -1] else st, max d (st.length + 1))) = some (st', d') → (if opensK k = true then st ++ [if k = 10 then (2 : Int) else -1] else st) = st' := by
        intro bad hb
        cases bad
        · simp only [Bool.false_eq_true, if_false, Option.some.injEq, Prod.mk.injEq] at hb
          exact hb.1
        · simp at hb
      have h3 := h2 _ h
      rw [← h3, if_neg h6]
      split
      · simp
      · rfl
theorem runC_item : ∀ (l : List Nd) (st : List Int) (d d' : Int), runC l st d = some ([], d') → 0 < st.length → ∃ m d2, behC l st.length = some m ∧ runC (l.drop m) [] d2 = some ([], d')
  | [], st, d, d', h, hn => by
    simp only [runC, Option.some.injEq, Prod.mk.injEq] at h
    rw [h.1] at hn; simp at hn
  | x :: l, st, d, d', h, hn => by
    unfold runC at h
    split at h
    · obtain ⟨⟨st', d1⟩, hs, hr⟩ := Option.bind_eq_some_iff.1 h
      obtain ⟨hl, _⟩ := stepC_len hs
      simp only at hr
      by_cases h0 : st'.length = 0
      · have e : st' = [] := List.length_eq_zero_iff.1 h0
        subst e
        refine ⟨1, d1, ?_, hr⟩
        unfold behC
        rw [← hl]
        simp
      · obtain ⟨m, d2, hb, hr2⟩ := runC_item l st' d1 d' hr (by omega)
        refine ⟨m + 1, d2, ?_, hr2⟩
        unfold behC
        rw [← hl, hb, if_neg (by omega)]
        rfl
    · cases h
theorem runC_top {x : Nd} {l : List Nd} {d d' : Int} (h : runC (x :: l) [] d = some ([], d')) : ∃ m d2, behC (x :: l) 0 = some m ∧ runC ((x :: l).drop m) [] d2 = some ([], d') := by
  unfold runC at h
  split at h
  · obtain ⟨⟨st', d1⟩, hs, hr⟩ := Option.bind_eq_some_iff.1 h
    obtain ⟨hl, _⟩ := stepC_len hs
    simp only at hr
    by_cases h0 : st'.length = 0
    · have e : st' = [] := List.length_eq_zero_iff.1 h0
      subst e
      refine ⟨1, d1, ?_, hr⟩
      unfold behC
      have hl' : behN x.kind 0 = 0 := hl.symm
      rw [if_pos hl']
    · obtain ⟨m, d2, hb, hr2⟩ := runC_item l st' d1 d' hr (by omega)
      refine ⟨m + 1, d2, ?_, hr2⟩
      unfold behC
      have hl' : behN x.kind 0 = (st'.length : Int) := hl.symm
      rw [hl', hb, if_neg (by omega)]
      rfl
  · cases h
theorem items_of_run (L : List Nd) : ∀ (n i : Nat) (d d' : Int), L.length - i ≤ n → i ≤ L.length → runC (L.drop i) [] d = some ([], d') → ∃ s, Items L i s
  | n, i, d, d', hn, hi, h => by
    by_cases hlt : i < L.length
    · have e := List.drop_eq_getElem_cons hlt
      rw [e] at h
      obtain ⟨m, d2, hb, hr⟩ := runC_top h
      rw [← e] at hb hr
      have hm := behC_pos _ _ _ hb
      rw [List.length_drop] at hm
      rw [List.drop_drop] at hr
      match n, hn with
      | 0, hn => omega
      | n + 1, hn =>
        obtain ⟨s, hs⟩ := items_of_run L n (i + m) d2 d' (by omega) (by omega) hr
        exact ⟨i :: s, .step hlt hb hs⟩
    · obtain rfl : i = L.length := by omega
      exact ⟨[], .done⟩
theorem checkC_zero {L : List Nd} (h : checkC L = 0) : L.length ≤ 2000 ∧ ∃ d, d ≤ 40 ∧ runC L [] 0 = some ([], d) := by
  unfold checkC at h
  split at h
  · cases h
  · rename_i hn
    refine ⟨by omega, ?_⟩
    cases hr : runC L [] 0 with
    | none => rw [hr] at h; cases h
    | some r =>
      obtain ⟨st, d⟩ := r
      rw [hr] at h
      simp only [codeC] at h
      split at h
      · cases h
      · rename_i h0
        split at h
        · cases h
        · exact ⟨d, by omega, by rw [show st = [] from List.length_eq_zero_iff.1 (by omega)]⟩
/-- a list's own items -/
theorem items_of_check {L : List Nd} (h : checkC L = 0) : ∃ s, Items L 0 s := by
  obtain ⟨_, d, _, hr⟩ := checkC_zero h
  exact items_of_run L L.length 0 0 d (by omega) (Nat.zero_le _) (by rw [List.drop_zero]; exact hr)
theorem Items.uniq {L : List Nd} {i : Nat} {s : List Nat} (h : Items L i s) : ∀ {s' : List Nat}, Items L i s' → s = s' := by
  induction h with
  | done => intro s' h'; cases h' with
    | done => rfl
    | step hi _ _ => exact absurd hi (Nat.lt_irrefl _)
  | step hi hm hs ih =>
    intro s' h'
    cases h' with
    | done => exact absurd hi (Nat.lt_irrefl _)
    | step hi' hm' hs' =>
      rw [hm] at hm'
      cases hm'
      rw [ih hs']
/-- the beginnings of a list's own items -/
noncomputable def itemsP (L : List Nd) : List Nat := open Classical in if h : checkC L = 0 then (items_of_check h).choose else []
theorem itemsP_spec {L : List Nd} (h : checkC L = 0) : Items L 0 (itemsP L) := by
  unfold itemsP
  rw [dif_pos h]
  exact (items_of_check h).choose_spec
end Go.Proofs.Ytkkdopfdoommnaa
