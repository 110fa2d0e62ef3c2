/-
  The page builder: how bad a page is; a break is tried.
-/
import Derived.Test.YtomehdepjenilaaGreatH4
import Derived.Test.YtomehdepjenilaaGreatTame4
import Derived.Test.YtomehdepjenilaaGreatC5
set_option maxRecDepth 100000
set_option maxHeartbeats 8000000
namespace Go.Proofs.YtomehdepjenilaaGreat
open Go.ChangeShapes Go.WideShapes Go.ChangeAt Go.RowKit
def held31 (x : Int) : Int := max (-2147483647) (min x 2147483647)
def badG (goal : Int) (t : Tt) : Int :=
  let x := wrap64 (goal - t.nat)
  if x = 0 ∨ 0 < x ∧ (t.s1 ≠ 0 ∨ t.s2 ≠ 0 ∨ t.s3 ≠ 0) then 0
  else if x < 0 ∧ t.h0 < wrap64 (-x) then 1073741823
  else if 0 < x then badP (held31 x) (held31 t.s0)
  else if wrap64 (-x) < 0 then 0 else badP (held31 (wrap64 (-x))) (held31 t.h0)
theorem held_in (x : Int) : -2147483647 ≤ held31 x ∧ held31 x ≤ 2147483647 := by unfold held31; omega
theorem held_any (x : Int) (w : World) : Calls Tryz.prog 151 #[.int .i64 x] w fun e w' => e = .returned (.int .i64 (held31 x)) ∧ w' = w := by
  go_enter Tryz.func151, Tryz.ntmps151
  go_wp2_with fail
  all_goals go_ret
  all_goals exact ⟨ret_i1 (by unfold held31; omega), rfl⟩
theorem vbad_neg (t s : Int) (w : World) (h0 : t < 0) (ht : -2147483647 ≤ t) (hs1 : -2147483647 ≤ s) (hs2 : s ≤ 2147483647) :
    Calls Tryz.prog 152 #[.int .i64 t, .int .i64 s] w fun e w' => e = .returned (.tuple #[.int .i64 0, .int .i64 1]) ∧ Below w.heap.size w w' := by
  have HF := Lib.hid (anyFar2 (fun k => if k = 0 then t else s) w.heap.size (w.alloc (.cells #[.int .i64 t, .int .i64 s] 3)) (two_near (heap_alloc_new w _) (by omega) (by omega)))
  go_enter Tryz.func152, Tryz.ntmps152
  go_wp2_with (go_at_call 166; refine HF.out.mono ?_; rintro e w' ⟨rfl, rfl⟩)
  all_goals go_ret2
  all_goals exact ⟨rfl, (Below.refl _ _).alloc (Nat.le_refl _) _⟩
theorem sbad_v (V : Int) (S : Nat) (c : Sc) (w : World) (h : ScAt w S c) (hV : badG c.goal c.t = V) : Calls Tryz.prog 142 #[.pointer (some ⟨S, 0, none⟩)] w fun e w' => e = .returned (.int .i64 V) ∧ Below w.heap.size w w' := by
  have c3 := h.cell 3 _ (Sc.get3 c)
  have c4 := h.cell 4 _ (Sc.get4 c)
  have H := Lib.hid h
  have hlt := h.lt
  clear h
  obtain ⟨x, hx⟩ : ∃ x, wrap64 (c.goal - c.t.nat) = x := ⟨_, rfl⟩
  have hb : V = if x = 0 ∨ 0 < x ∧ (c.t.s1 ≠ 0 ∨ c.t.s2 ≠ 0 ∨ c.t.s3 ≠ 0) then 0
    else if x < 0 ∧ c.t.h0 < wrap64 (-x) then 1073741823
    else if 0 < x then badP (held31 x) (held31 c.t.s0)
    else if wrap64 (-x) < 0 then 0 else badP (held31 (wrap64 (-x))) (held31 c.t.h0) := by rw [← hV]; unfold badG; simp only [hx]
  have Hb := Lib.hid hb
  clear hb
  have Hx := Lib.hid hx
  clear hx
  go_enter Tryz.func142, Tryz.ntmps142
  go_wp2_with fail
  go_region
  rw [Hx.out]
  have h2 := H.out.drew
  clear c3 c4
  have hb2 : Below w.heap.size w w.drew := (Below.refl _ _).drew
  generalize w.drew = w2 at h2 hb2 ⊢
  have c5 := h2.cell 5 _ (Sc.get5 c)
  have c6 := h2.cell 6 _ (Sc.get6 c)
  have c7 := h2.cell 7 _ (Sc.get7 c)
  have c8 := h2.cell 8 _ (Sc.get8 c)
  have c9 := h2.cell 9 _ (Sc.get9 c)
  have hlt2 := h2.lt
  have H2 := Lib.hid h2
  clear h2 H hlt Hx
  obtain ⟨s0, hs0⟩ : ∃ s0, c.t.s0 = s0 := ⟨_, rfl⟩
  rw [hs0] at c5 Hb
  have HS0 := Lib.hid hs0
  clear hs0
  generalize c.t.s1 = s1 at c6 Hb ⊢
  generalize c.t.s2 = s2 at c7 Hb ⊢
  generalize c.t.s3 = s3 at c8 Hb ⊢
  obtain ⟨h0, hh0⟩ : ∃ h0, c.t.h0 = h0 := ⟨_, rfl⟩
  rw [hh0] at c9 Hb
  have HH0 := Lib.hid hh0
  clear hh0
  have Hb2 := Lib.hid hb2
  clear hb2
  have HK : Hid (∀ y W, Calls Tryz.prog 151 #[.int .i64 y] W fun e w' => e = .returned (.int .i64 (held31 y)) ∧ w' = W) := Lib.hid held_any
  have HV : Hid (∀ y z W, 0 ≤ y → Calls Tryz.prog 152 #[.int .i64 (held31 y), .int .i64 (held31 z)] W fun e w' => e = .returned (.tuple #[.int .i64 (badP (held31 y) (held31 z)), .int .i64 0]) ∧ Below W.heap.size W w') := Lib.hid fun y z W hy => vbadness _ _ W (by unfold held31; omega) (held_in _).2 (held_in _).1 (held_in _).2
  have HN : Hid (∀ y z W, y < 0 → Calls Tryz.prog 152 #[.int .i64 (held31 y), .int .i64 (held31 z)] W fun e w' => e = .returned (.tuple #[.int .i64 0, .int .i64 1]) ∧ Below W.heap.size W w') := Lib.hid fun y z W hy => vbad_neg _ _ W (by unfold held31; omega) (held_in _).1 (held_in _).1 (held_in _).2
  clear hV
  by_cases x0 : x = 0
  · have hv := Lib.hid (Hb.out.trans (if_pos (.inl x0)))
    subst x0
    go_wp2_with fail
    go_ret
    exact ⟨ret_i1 hv.out.symm, Hb2.out⟩
  by_cases x1 : 0 < x
  · have d1 : decide (x > 0) = true := decide_eq_true x1
    have d2 : decide (x < 0) = false := by simp; omega
    have n1 : ¬ (x < 0 ∧ h0 < wrap64 (-x)) := fun h => by omega
    by_cases k1 : s1 = 0
    case neg =>
      have hv := Lib.hid (Hb.out.trans (if_pos (.inr ⟨x1, .inl k1⟩)))
      have e1 : (s1 != 0) = true := by simpa using k1
      go_wp2_with fail
      go_ret
      exact ⟨ret_i1 hv.out.symm, Hb2.out⟩
    by_cases k2 : s2 = 0
    case neg =>
      have hv := Lib.hid (Hb.out.trans (if_pos (.inr ⟨x1, .inr (.inl k2)⟩)))
      have e1 : (s1 != 0) = false := by simpa using k1
      have e2 : (s2 != 0) = true := by simpa using k2
      go_wp2_with fail
      go_ret
      exact ⟨ret_i1 hv.out.symm, Hb2.out⟩
    by_cases k3 : s3 = 0
    case neg =>
      have hv := Lib.hid (Hb.out.trans (if_pos (.inr ⟨x1, .inr (.inr k3)⟩)))
      have e1 : (s1 != 0) = false := by simpa using k1
      have e2 : (s2 != 0) = false := by simpa using k2
      have e3 : (s3 != 0) = true := by simpa using k3
      go_wp2_with fail
      go_ret
      exact ⟨ret_i1 hv.out.symm, Hb2.out⟩
    have hv := Lib.hid (Hb.out.trans ((if_neg (fun h => by rcases h with h | ⟨_, h | h | h⟩ <;> omega)).trans ((if_neg n1).trans (if_pos x1))))
    have e1 : (s1 != 0) = false := by simpa using k1
    have e2 : (s2 != 0) = false := by simpa using k2
    have e3 : (s3 != 0) = false := by simpa using k3
    have hx1 : 0 ≤ x := by omega
    go_wp2_with fail
    have hb3 : Below w2.heap.size w2 w2.drew := (Below.refl _ _).drew
    refine Rest.region follows ?_
    refine Rest.tame 17 (fun W => Below w2.heap.size w2 W) (by kernel_rfl) hb3 ?_
    simp only [Nat.reduceSub, List.drop_zero, List.take_succ_cons, List.take_zero]
    iterate 17 first
      | (refine TW.cons_n rfl _ (by intro wT hT R hR K hK; simp only [Act.put, lsA, lsB, lsC] at hK; have yc := (H2.out.below hT).cell 5 _ (Sc.get5 c); rw [HS0.out] at yc; go_step; first | ((with_reducible refine (HK.out _ _).mono ?_); rintro e w8 ⟨rfl, rfl⟩; exact hK _ _ (hR _ hT)) | ((with_reducible refine (HV.out _ _ _ hx1).mono ?_); rintro e w8 ⟨rfl, h8⟩; exact hK _ _ (hR _ (hT.trans (h8.mono hT.size)))) | exact hK _ _ (hR _ hT)) ?_; try simp only [Act.put, lsA, lsB, lsC])
    refine TW.nil fun w9 h9 => ?_
    refine Rest.done ?_
    go_wp2_with fail
    go_ret
    exact ⟨ret_i1 hv.out.symm, Hb2.out.trans (h9.mono Hb2.out.size)⟩
  · have d1 : decide (x > 0) = false := decide_eq_false x1
    have x2 : x < 0 := by omega
    have d2 : decide (x < 0) = true := decide_eq_true x2
    have n1 : ¬ (x = 0 ∨ 0 < x ∧ (s1 ≠ 0 ∨ s2 ≠ 0 ∨ s3 ≠ 0)) := fun h => by rcases h with h | h <;> omega
    by_cases y1 : h0 < wrap64 (-x)
    · have d3 : decide (wrap64 (-x) > h0) = true := decide_eq_true y1
      have hv := Lib.hid (Hb.out.trans ((if_neg n1).trans (if_pos ⟨x2, y1⟩)))
      go_wp2_with fail
      go_ret
      exact ⟨ret_i1 hv.out.symm, Hb2.out⟩
    · have d3 : decide (wrap64 (-x) > h0) = false := decide_eq_false y1
      have n2 : ¬ (x < 0 ∧ h0 < wrap64 (-x)) := fun h => y1 h.2
      by_cases z1 : wrap64 (-x) < 0
      · have hv := Lib.hid (Hb.out.trans ((if_neg n1).trans ((if_neg n2).trans ((if_neg x1).trans (if_pos z1)))))
        clear n1 n2
        go_wp2_with fail
        have hb3 : Below w2.heap.size w2 w2.drew := (Below.refl _ _).drew
        refine Rest.region follows ?_
        refine Rest.tame 18 (fun W => Below w2.heap.size w2 W) (by kernel_rfl) hb3 ?_
        simp only [Nat.reduceSub, List.drop_zero, List.take_succ_cons, List.take_zero]
        iterate 18 first
          | (refine TW.cons_n rfl _ (by intro wT hT R hR K hK; simp only [Act.put, lsA, lsB, lsC] at hK; have yc := (H2.out.below hT).cell 9 _ (Sc.get9 c); rw [HH0.out] at yc; go_step; first | ((with_reducible refine (HK.out _ _).mono ?_); rintro e w8 ⟨rfl, rfl⟩; exact hK _ _ (hR _ hT)) | ((with_reducible refine (HN.out _ _ _ z1).mono ?_); rintro e w8 ⟨rfl, h8⟩; exact hK _ _ (hR _ (hT.trans (h8.mono hT.size)))) | exact hK _ _ (hR _ hT)) ?_; try simp only [Act.put, lsA, lsB, lsC])
        refine TW.nil fun w9 h9 => ?_
        refine Rest.done ?_
        go_wp2_with fail
        go_ret
        exact ⟨ret_i1 hv.out.symm, Hb2.out.trans (h9.mono Hb2.out.size)⟩
      · have hv := Lib.hid (Hb.out.trans ((if_neg n1).trans ((if_neg n2).trans ((if_neg x1).trans (if_neg z1)))))
        have z2 : 0 ≤ wrap64 (-x) := by omega
        clear n1 n2 z1
        go_wp2_with fail
        have hb3 : Below w2.heap.size w2 w2.drew := (Below.refl _ _).drew
        refine Rest.region follows ?_
        refine Rest.tame 18 (fun W => Below w2.heap.size w2 W) (by kernel_rfl) hb3 ?_
        simp only [Nat.reduceSub, List.drop_zero, List.take_succ_cons, List.take_zero]
        iterate 18 first
          | (refine TW.cons_n rfl _ (by intro wT hT R hR K hK; simp only [Act.put, lsA, lsB, lsC] at hK; have yc := (H2.out.below hT).cell 9 _ (Sc.get9 c); rw [HH0.out] at yc; go_step; first | ((with_reducible refine (HK.out _ _).mono ?_); rintro e w8 ⟨rfl, rfl⟩; exact hK _ _ (hR _ hT)) | ((with_reducible refine (HV.out _ _ _ z2).mono ?_); rintro e w8 ⟨rfl, h8⟩; exact hK _ _ (hR _ (hT.trans (h8.mono hT.size)))) | exact hK _ _ (hR _ hT)) ?_; try simp only [Act.put, lsA, lsB, lsC])
        refine TW.nil fun w9 h9 => ?_
        refine Rest.done ?_
        go_wp2_with fail
        go_ret
        exact ⟨ret_i1 hv.out.symm, Hb2.out.trans (h9.mono Hb2.out.size)⟩
theorem sbad (S : Nat) (c : Sc) (w : World) (h : ScAt w S c) : Calls Tryz.prog 142 #[.pointer (some ⟨S, 0, none⟩)] w fun e w' => e = .returned (.int .i64 (badG c.goal c.t)) ∧ Below w.heap.size w w' := sbad_v _ S c w h rfl
end Go.Proofs.YtomehdepjenilaaGreat
