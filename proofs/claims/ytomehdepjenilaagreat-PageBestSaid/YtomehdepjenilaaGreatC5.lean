/-
  What a break costs: of totals, a height and a penalty: the program's and the document's.
-/
import Derived.Test.YtomehdepjenilaaGreatC1
import Derived.Test.YtomehdepjenilaaGreatS10
set_option maxHeartbeats 4000000
namespace Go.Proofs.YtomehdepjenilaaGreat
open Go.ChangeShapes Go.WideShapes Go.ChangeAt Go.RowKit
def badM (x s : Int) : Int := badP (min x 2147483647) (max (-2147483647) (min s 2147483647))
theorem badP_neg (t s u : Int) (hs : s < 1) (hu : u < 1) : badP t s = badP t u := by
  unfold badP
  simp only [if_pos hs, if_pos hu]
theorem badM_eq (x s : Int) : badP (min x 2147483647) (max (-1) (min s 2147483647)) = badM x s := by
  unfold badM
  by_cases h : -1 ≤ min s 2147483647
  · rw [show max (-1) (min s 2147483647) = max (-2147483647) (min s 2147483647) by omega]
  · exact badP_neg _ _ _ (by omega) (by omega)
theorem badM_v {x s a b : Int} (ha : a = min x 2147483647) (hb : b = max (-2147483647) (min s 2147483647)) : badP a b = badM x s := by rw [ha, hb]; rfl
theorem badM_q {x s a b : Int} (ha : a = min x 2147483647) (hb : b = max (-1) (min s 2147483647)) : badP a b = badM x s := by rw [ha, hb, badM_eq]
theorem ret_i1 {a b : Int} (h : a = b) : Ending.returned (.int .i64 a) = .returned (.int .i64 b) := by rw [h]
theorem vbad_any (x s : Int) (w : World) (hx : 0 ≤ x) : Calls Tryz.prog 176 #[.int .i64 x, .int .i64 s] w fun e w' => e = .returned (.int .i64 (badM x s)) ∧ Below w.heap.size w w' := by
  go_enter Tryz.func176, Tryz.ntmps176
  go_wp2_with (go_at_call 152; refine (vbadness _ _ _ (by omega) (by omega) (by omega) (by omega)).mono ?_; rintro e w1 ⟨rfl, hb⟩)
  all_goals go_ret
  all_goals exact ⟨ret_i1 (badM_v (by omega) (by omega)), hb⟩
theorem qbad_any (x s : Int) (w : World) (hx : 0 ≤ x) : Calls Tryz.prog 49 #[.int .i64 x, .int .i64 s] w fun e w' => e = .returned (.int .i64 (badM x s)) ∧ Below w.heap.size w w' := by
  go_enter Tryz.func49, Tryz.ntmps49
  go_wp2_with (go_at_call 70; refine (qbadness _ _ _ (by omega) (by omega) (by omega) (by omega)).mono ?_; rintro e w1 ⟨rfl, hb⟩)
  all_goals go_ret
  all_goals exact ⟨ret_i1 (badM_q (by omega) (by omega)), hb⟩
theorem badP_range (t s : Int) : 0 ≤ badP t s ∧ badP t s ≤ 10000 ∨ t < 0 := by
  by_cases h : t < 0
  · exact .inr h
  · left
    unfold badP
    split
    · omega
    split
    · omega
    split
    · omega
    have h0 : 0 ≤ badR t s := by
      unfold badR
      split
      · exact Int.ediv_nonneg (by omega) (by omega)
      split
      · exact Int.ediv_nonneg (by omega) (by omega)
      · omega
    obtain ⟨a, b, c, d⟩ := cube_le (badR t s) h0 (by omega)
    omega
theorem badM_range (x s : Int) (h : 0 ≤ x) : 0 ≤ badM x s ∧ badM x s ≤ 10000 := by
  rcases badP_range (min x 2147483647) (max (-2147483647) (min s 2147483647)) with h | h
  · exact h
  · omega
def badT (T : Tt) (h : Int) : Int :=
  if 0 < h - T.nat then (if T.s1 = 0 ∧ T.s2 = 0 ∧ T.s3 = 0 then badM (h - T.nat) T.s0 else 0)
  else if h - T.nat < 0 then (if T.h0 < -(h - T.nat) then 1073741823 else badM (-(h - T.nat)) T.h0) else 0
def costP (T : Tt) (h q : Int) : Int :=
  if badT T h = 1073741823 then 1073741823 else if q ≤ -10000 then q else if badT T h < 10000 then badT T h + q else 100000
inductive Slack (T : Tt) (h : Int) : Prop where
  | zero : h - T.nat = 0 → badT T h = 0 → Slack T h
  | inf : 0 < h - T.nat → ¬ (T.s1 = 0 ∧ T.s2 = 0 ∧ T.s3 = 0) → badT T h = 0 → Slack T h
  | up : 0 < h - T.nat → T.s1 = 0 → T.s2 = 0 → T.s3 = 0 → badT T h = badM (h - T.nat) T.s0 → Slack T h
  | far : h - T.nat < 0 → T.h0 < -(h - T.nat) → badT T h = 1073741823 → Slack T h
  | down : h - T.nat < 0 → -(h - T.nat) ≤ T.h0 → badT T h = badM (-(h - T.nat)) T.h0 → Slack T h
theorem slack (T : Tt) (h : Int) : Slack T h := by
  by_cases a : 0 < h - T.nat
  · by_cases b : T.s1 = 0 ∧ T.s2 = 0 ∧ T.s3 = 0
    · exact .up a b.1 b.2.1 b.2.2 (by unfold badT; rw [if_pos a, if_pos b])
    · exact .inf a b (by unfold badT; rw [if_pos a, if_neg b])
  · by_cases b : h - T.nat < 0
    · by_cases c : T.h0 < -(h - T.nat)
      · exact .far b c (by unfold badT; rw [if_neg a, if_pos b, if_pos c])
      · exact .down b (by omega) (by unfold badT; rw [if_neg a, if_pos b, if_neg c])
    · exact .zero (by omega) (by unfold badT; rw [if_neg a, if_neg b])
set_option maxRecDepth 100000 in
theorem qBad (T : Tt) (h : Int) (w : World) (h1 : -1073741823 ≤ h) (h2 : h ≤ 1073741823) (n1 : -1152921504606846976 ≤ T.nat) (n2 : T.nat ≤ 1152921504606846976) :
    Calls Tryz.prog 22 #[.agg T.arr, .int .i64 h] w fun e w' => e = .returned (.int .i64 (badT T h)) ∧ Below w.heap.size w w' := by
  have HS := Lib.hid (slack T h)
  go_enter Tryz.func22, Tryz.ntmps22
  go_upto_region 1 with (fail)
  have hT : TAt (w.alloc (.cells T.arr 57)) w.heap.size T := heap_alloc_new w _
  have hb0 : Below w.heap.size w (w.alloc (.cells T.arr 57)) := (Below.refl _ _).alloc (Nat.le_refl _) _
  generalize w.alloc (.cells T.arr 57) = w1 at hT hb0 ⊢
  have c0 := hT.cell 0 _ (Tt.get0 T)
  have c1 := hT.cell 1 _ (Tt.get1 T)
  have c2 := hT.cell 2 _ (Tt.get2 T)
  have c3 := hT.cell 3 _ (Tt.get3 T)
  have c4 := hT.cell 4 _ (Tt.get4 T)
  have c5 := hT.cell 5 _ (Tt.get5 T)
  have HB0 := Lib.hid hb0
  clear hb0
  generalize w.heap.size = X at c0 c1 c2 c3 c4 c5 ⊢
  clear hT
  obtain ⟨g, hg⟩ : ∃ g, h - T.nat = g := ⟨_, rfl⟩
  have hg1 : -1200000000000000000 ≤ g := by omega
  have hg2 : g ≤ 1200000000000000000 := by omega
  rcases HS.out with ⟨a, b⟩ | ⟨a, a', b⟩ | ⟨a, a1, a2, a3, b⟩ | ⟨a, a', b⟩ | ⟨a, a', b⟩
  all_goals (have HB := Lib.hid b; clear HS b)
  · rw [hg] at a
    subst a
    go_wp2_with fail
    go_ret
    exact ⟨ret_i1 HB.out.symm, HB0.out⟩
  · rw [hg] at a
    have hgn : (g == 0) = false := by simp; omega
    by_cases b1 : T.s1 = 0
    · by_cases b2 : T.s2 = 0
      · have b3 : (T.s3 != 0) = true := by simpa using fun e => a' ⟨b1, b2, e⟩
        clear a'
        go_wp2_with fail
        go_ret
        exact ⟨ret_i1 HB.out.symm, HB0.out⟩
      · have b3 : (T.s2 != 0) = true := by simpa using b2
        clear a'
        go_wp2_with fail
        go_ret
        exact ⟨ret_i1 HB.out.symm, HB0.out⟩
    · have b3 : (T.s1 != 0) = true := by simpa using b1
      clear a'
      go_wp2_with fail
      go_ret
      exact ⟨ret_i1 HB.out.symm, HB0.out⟩
  · rw [hg] at a HB
    have hgn : (g == 0) = false := by simp; omega
    have HA := Lib.hid (qbad_any g T.s0 w1 (by omega))
    generalize badM g T.s0 = b at HB HA
    go_wp2_with (go_at_call 49; refine HA.out.mono ?_; rintro e w2 ⟨rfl, hb2⟩; have HB2 := Lib.hid (HB0.out.trans (hb2.mono HB0.out.size)))
    go_ret
    exact ⟨ret_i1 HB.out.symm, HB2.out⟩
  · rw [hg] at a a'
    have hgn : (g == 0) = false := by simp; omega
    go_wp2_with fail
    go_ret
    exact ⟨ret_i1 HB.out.symm, HB0.out⟩
  · rw [hg] at a a' HB
    have hgn : (g == 0) = false := by simp; omega
    have HA := Lib.hid (qbad_any (-g) T.h0 w1 (by omega))
    generalize badM (-g) T.h0 = b at HB HA
    go_wp2_with (go_at_call 49; refine HA.out.mono ?_; rintro e w2 ⟨rfl, hb2⟩; have HB2 := Lib.hid (HB0.out.trans (hb2.mono HB0.out.size)))
    go_ret
    exact ⟨ret_i1 HB.out.symm, HB2.out⟩
def pricedP (b q : Int) : Int := if b = 1073741823 then 1073741823 else if q ≤ -10000 then q else if b < 10000 then b + q else 100000
theorem qPriced (b q : Int) (w : World) (b1 : 0 ≤ b) (b2 : b ≤ 1073741823) (q2 : q ≤ 10000) :
    Calls Tryz.prog 21 #[.int .i64 b, .int .i64 q] w fun e w' => e = .returned (.int .i64 (pricedP b q)) ∧ w = w' := by
  by_cases h : b = 1073741823
  · subst h
    have H := Lib.hid (show pricedP 1073741823 q = 1073741823 from rfl)
    go_enter Tryz.func21, Tryz.ntmps21
    go_wp2
    go_ret
    exact ⟨ret_i1 H.out.symm, rfl⟩
  · have H := Lib.hid (show pricedP b q = if q ≤ -10000 then q else if b < 10000 then b + q else 100000 by unfold pricedP; rw [if_neg h])
    go_enter Tryz.func21, Tryz.ntmps21
    go_wp2
    all_goals go_ret
    all_goals first
      | exact ⟨ret_i1 (by rw [H.out, if_pos (by omega)]), rfl⟩
      | exact ⟨ret_i1 (by rw [H.out, if_neg (by omega), if_pos (by omega)]), rfl⟩
      | exact ⟨ret_i1 (by rw [H.out, if_neg (by omega), if_neg (by omega)]), rfl⟩
theorem badT_range (T : Tt) (h : Int) : 0 ≤ badT T h ∧ badT T h ≤ 1073741823 := by
  rcases slack T h with ⟨_, b⟩ | ⟨_, _, b⟩ | ⟨a, _, _, _, b⟩ | ⟨_, _, b⟩ | ⟨a, _, b⟩
  · omega
  · omega
  · have := badM_range (h - T.nat) T.s0 (by omega); omega
  · omega
  · have := badM_range (-(h - T.nat)) T.h0 (by omega); omega
theorem meas_bound {L : List Nd} {s : List Nat} (t : Nat) {depth : Int} (hn : ∀ i ∈ s, NdB (nth L i)) (hl : s.length ≤ 2001) (hd : -1073741823 ≤ depth ∧ depth ≤ 1073741823) :
    (-9000000000000 ≤ (measP L s t depth).1.nat ∧ (measP L s t depth).1.nat ≤ 9000000000000) ∧ -1073741823 ≤ (measP L s t depth).2 ∧ (measP L s t depth).2 ≤ 1073741823 := by
  have hla : (aheadP s t).length ≤ s.length := (List.takeWhile_sublist _).length_le
  have h := foldM_ok (depth := depth) (fun i hi => hn i (ahead_sub i hi)) (show (aheadP s t).length ≤ 2001 by omega)
  have h1 := h.nat
  have h2 := h.d
  have hdp : (foldM L depth (aheadP s t)).depth = depth := foldM_depth ..
  unfold measP sizeM
  rw [hdp]
  split
  · exact ⟨⟨by show _ ≤ (foldM L depth (aheadP s t)).t.nat + ((foldM L depth (aheadP s t)).d - depth); omega, by show (foldM L depth (aheadP s t)).t.nat + ((foldM L depth (aheadP s t)).d - depth) ≤ _; omega⟩, hd⟩
  · exact ⟨⟨by show _ ≤ (foldM L depth (aheadP s t)).t.nat; omega, by show (foldM L depth (aheadP s t)).t.nat ≤ _; omega⟩, h2⟩
end Go.Proofs.YtomehdepjenilaaGreat
