/-
  What is a list has items, one behind the other (plain).
-/
import Derived.Test.YtaehkbbdmamfpaaGreatDoorV8
set_option maxHeartbeats 1000000
namespace Go.Proofs.YtaehkbbdmamfpaaGreatDoor

theorem stepC_len {k : Int} {st st' : List Int} {d d' : Int} (h : stepC k st d = some (st', d')) : (st'.length : Int) = behN k st.length ∧ (st = [] → k ≠ 6 ∧ k ≠ 11) := by
  unfold stepC at h
  unfold behN
  split at h
  · rename_i h6
    subst h6
    cases hl : st.getLast? with
    | none => rw [hl] at h; cases h
    | some x =>
      rw [hl] at h
      simp only at h
      split at h
      · cases h
      · simp only [Option.some.injEq, Prod.mk.injEq] at h
        obtain ⟨rfl, _⟩ := h
        have hne : st ≠ [] := by intro e; rw [e] at hl; cases hl
        have := List.length_pos_iff.2 hne
        refine ⟨?_, fun e => absurd e hne⟩
        rw [List.length_dropLast]
        simp [opensK]; omega
  · rename_i h6
    split at h
    · rename_i h11
      subst h11
      cases hl : st.getLast? with
      | none => rw [hl] at h; cases h
      | some x =>
        rw [hl] at h
        simp only at h
        split at h
        · cases h
        · simp only [Option.some.injEq, Prod.mk.injEq] at h
          obtain ⟨rfl, _⟩ := h
          have hne : st ≠ [] := by intro e; rw [e] at hl; cases hl
          refine ⟨?_, fun e => absurd e hne⟩
          rw [List.length_set]
          simp [opensK]
    · rename_i h11
      refine ⟨?_, fun _ => ⟨h6, h11⟩⟩
      have h2 : ∀ bad : Bool, (if bad = true then none else some (if opensK k = true then st ++ [if k = 10 then (2 : Int) else -1] else st, max d (st.length + 1))) = some (st', d') → (if opensK k = true then st ++ [if k = 10 then (2 : Int) else -1] else st) = st' := by
        intro bad hb
        cases bad
        · simp only [Bool.false_eq_true, if_false, Option.some.injEq, Prod.mk.injEq] at hb
          exact hb.1
        · simp at hb
      have h3 := h2 _ h
      rw [← h3, if_neg h6]
      split
      · simp
      · rfl
theorem runC_item : ∀ (l : List Nd) (st : List Int) (d d' : Int), runC l st d = some ([], d') → 0 < st.length → ∃ m d2, behC l st.length = some m ∧ runC (l.drop m) [] d2 = some ([], d')
  | [], st, d, d', h, hn => by
    simp only [runC, Option.some.injEq, Prod.mk.injEq] at h
    rw [h.1] at hn; simp at hn
  | x :: l, st, d, d', h, hn => by
    unfold runC at h
    split at h
    · obtain ⟨⟨st', d1⟩, hs, hr⟩ := Option.bind_eq_some_iff.1 h
      obtain ⟨hl, _⟩ := stepC_len hs
      simp only at hr
      by_cases h0 : st'.length = 0
      · have e : st' = [] := List.length_eq_zero_iff.1 h0
        subst e
        refine ⟨1, d1, ?_, hr⟩
        unfold behC
        rw [← hl]
        simp
      · obtain ⟨m, d2, hb, hr2⟩ := runC_item l st' d1 d' hr (by omega)
        refine ⟨m + 1, d2, ?_, hr2⟩
        unfold behC
        rw [← hl, hb, if_neg (by omega)]
        rfl
    · cases h
theorem runC_top {x : Nd} {l : List Nd} {d d' : Int} (h : runC (x :: l) [] d = some ([], d')) : ∃ m d2, behC (x :: l) 0 = some m ∧ runC ((x :: l).drop m) [] d2 = some ([], d') := by
  unfold runC at h
  split at h
  · obtain ⟨⟨st', d1⟩, hs, hr⟩ := Option.bind_eq_some_iff.1 h
    obtain ⟨hl, _⟩ := stepC_len hs
    simp only at hr
    by_cases h0 : st'.length = 0
    · have e : st' = [] := List.length_eq_zero_iff.1 h0
      subst e
      refine ⟨1, d1, ?_, hr⟩
      unfold behC
      have hl' : behN x.kind 0 = 0 := hl.symm
      rw [if_pos hl']
    · obtain ⟨m, d2, hb, hr2⟩ := runC_item l st' d1 d' hr (by omega)
      refine ⟨m + 1, d2, ?_, hr2⟩
      unfold behC
      have hl' : behN x.kind 0 = (st'.length : Int) := hl.symm
      rw [hl', hb, if_neg (by omega)]
      rfl
  · cases h
theorem items_of_run (L : List Nd) : ∀ (n i : Nat) (d d' : Int), L.length - i ≤ n → i ≤ L.length → runC (L.drop i) [] d = some ([], d') → ∃ s, Items L i s
  | n, i, d, d', hn, hi, h => by
    by_cases hlt : i < L.length
    · have e := List.drop_eq_getElem_cons hlt
      rw [e] at h
      obtain ⟨m, d2, hb, hr⟩ := runC_top h
      rw [← e] at hb hr
      have hm := behC_pos _ _ _ hb
      rw [List.length_drop] at hm
      rw [List.drop_drop] at hr
      match n, hn with
      | 0, hn => omega
      | n + 1, hn =>
        obtain ⟨s, hs⟩ := items_of_run L n (i + m) d2 d' (by omega) (by omega) hr
        exact ⟨i :: s, .step hlt hb hs⟩
    · obtain rfl : i = L.length := by omega
      exact ⟨[], .done⟩
theorem checkC_zero {L : List Nd} (h : checkC L = 0) : L.length ≤ 2000 ∧ ∃ d, d ≤ 40 ∧ runC L [] 0 = some ([], d) := by
  unfold checkC at h
  split at h
  · cases h
  · rename_i hn
    refine ⟨by omega, ?_⟩
    cases hr : runC L [] 0 with
    | none => rw [hr] at h; cases h
    | some r =>
      obtain ⟨st, d⟩ := r
      rw [hr] at h
      simp only [codeC] at h
      split at h
      · cases h
      · rename_i h0
        split at h
        · cases h
        · exact ⟨d, by omega, by rw [show st = [] from List.length_eq_zero_iff.1 (by omega)]⟩
theorem items_of_check {L : List Nd} (h : checkC L = 0) : ∃ s, Items L 0 s := by
  obtain ⟨_, d, _, hr⟩ := checkC_zero h
  exact items_of_run L L.length 0 0 d (by omega) (Nat.zero_le _) (by rw [List.drop_zero]; exact hr)
end Go.Proofs.YtaehkbbdmamfpaaGreatDoor

namespace Go.Proofs.YtaehkbbdmamfpaaGreatDoor
open Go.RowKit
theorem behC_app : ∀ (l r : List Nd) (n : Int) (m : Nat), behC l n = some m → behC (l ++ r) n = some m
  | [], _, _, _, h => by cases h
  | x :: l, r, n, m, h => by
    rw [List.cons_append]
    unfold behC at h ⊢
    split at h
    · rename_i h0; rw [if_pos h0]; exact h
    · rename_i h0
      rw [if_neg h0]
      obtain ⟨k, hk, rfl⟩ := Option.map_eq_some_iff.1 h
      rw [behC_app l r _ k hk]
      rfl
def sl (L : List Nd) (i m : Nat) : List Nd := (L.drop i).take m
theorem sl_len {L : List Nd} {i m : Nat} (h : i + m ≤ L.length) : (sl L i m).length = m := by unfold sl; simp; omega
theorem items_run2 {L : List Nd} {i : Nat} {s : List Nat} (h : Items L i s) : ∀ {d d' : Int}, runC (L.drop i) [] d = some ([], d') → ∀ x ∈ s, ∃ d2, runC (L.drop x) [] d2 = some ([], d') := by
  induction h with
  | done => intro d d' _ x hx; cases hx
  | step hi hm hs ih =>
    rename_i i m s
    intro d d' hr x hx
    rcases List.mem_cons.1 hx with rfl | hx
    · exact ⟨d, hr⟩
    · have e := List.drop_eq_getElem_cons hi
      rw [e] at hr
      obtain ⟨m2, d2, hb, hr2⟩ := runC_top hr
      rw [← e] at hb hr2
      rw [hm] at hb
      cases hb
      rw [List.drop_drop] at hr2
      exact ih hr2 x hx
end Go.Proofs.YtaehkbbdmamfpaaGreatDoor
namespace Go.Proofs.YtaehkbbdmamfpaaGreatDoor
open Go.ChangeShapes Go.WideShapes Go.ChangeAt Go.RowKit
attribute [local go_sem ↓] Go.wp_at_zero Go.wp_at_succ

def solidK (k : Int) : Bool := k == 4 || k == 5 || k == 3
def fallsK (k : Int) : Bool := k == 7 || k == 8 || k == 9
theorem vsolid (n : Nd) (w : World) : Calls Tryz.prog 108 #[.agg n.arr] w fun e w' => e = .returned (.bool (solidK n.kind)) ∧ Below w.heap.size w w' := by
  cases h0 : (n.kind == 4)
  rotate_left
  · go_enter Tryz.func108, Tryz.ntmps108
    go_wp2_with fail
    go_ret
    exact ⟨ret_bool (by simp [solidK, h0]), (Below.refl _ _).alloc (Nat.le_refl _) _⟩
  cases h1 : (n.kind == 5)
  rotate_left
  · go_enter Tryz.func108, Tryz.ntmps108
    go_wp2_with fail
    go_ret
    exact ⟨ret_bool (by simp [solidK, h0, h1]), (Below.refl _ _).alloc (Nat.le_refl _) _⟩
  cases h2 : (n.kind == 3)
  rotate_left
  · go_enter Tryz.func108, Tryz.ntmps108
    go_wp2_with fail
    go_ret
    exact ⟨ret_bool (by simp [solidK, h0, h1, h2]), (Below.refl _ _).alloc (Nat.le_refl _) _⟩
  go_enter Tryz.func108, Tryz.ntmps108
  go_wp2_with fail
  go_ret
  exact ⟨ret_bool (by simp [solidK, h0, h1, h2]), (Below.refl _ _).alloc (Nat.le_refl _) _⟩
theorem vfalls (n : Nd) (w : World) : Calls Tryz.prog 109 #[.agg n.arr] w fun e w' => e = .returned (.bool (fallsK n.kind)) ∧ Below w.heap.size w w' := by
  cases h0 : (n.kind == 7)
  rotate_left
  · go_enter Tryz.func109, Tryz.ntmps109
    go_wp2_with fail
    go_ret
    exact ⟨ret_bool (by simp [fallsK, h0]), (Below.refl _ _).alloc (Nat.le_refl _) _⟩
  cases h1 : (n.kind == 8)
  rotate_left
  · go_enter Tryz.func109, Tryz.ntmps109
    go_wp2_with fail
    go_ret
    exact ⟨ret_bool (by simp [fallsK, h0, h1]), (Below.refl _ _).alloc (Nat.le_refl _) _⟩
  cases h2 : (n.kind == 9)
  rotate_left
  · go_enter Tryz.func109, Tryz.ntmps109
    go_wp2_with fail
    go_ret
    exact ⟨ret_bool (by simp [fallsK, h0, h1, h2]), (Below.refl _ _).alloc (Nat.le_refl _) _⟩
  go_enter Tryz.func109, Tryz.ntmps109
  go_wp2_with fail
  go_ret
  exact ⟨ret_bool (by simp [fallsK, h0, h1, h2]), (Below.refl _ _).alloc (Nat.le_refl _) _⟩

end Go.Proofs.YtaehkbbdmamfpaaGreatDoor

