/-
  What a break costs: of totals, a height and a penalty: the program's and the document's.
  What a break costs: the program's cost.
  What a break costs: the document's Bad, Priced, price.
  What a break costs: the document's price; bounds of what is measured.
-/
import Derived.Test.YtkkdopfdoommnaaC1
import Derived.Test.YtkkdopfdoommnaaS10
namespace Go.Proofs.Ytkkdopfdoommnaa
open Go.ChangeShapes Go.WideShapes Go.ChangeAt Go.RowKit
def badM (x s : Int) : Int := badP (min x 2147483647) (max (-2147483647) (min s 2147483647))
theorem badP_neg (t s u : Int) (hs : s < 1) (hu : u < 1) : badP t s = badP t u := by
  unfold badP
  simp only [if_pos hs, if_pos hu]
theorem badM_eq (x s : Int) : badP (min x 2147483647) (max (-1) (min s 2147483647)) = badM x s := by
  unfold badM
  by_cases h : -1 ≤ min s 2147483647
  · rw [show max (-1) (min s 2147483647) = max (-2147483647) (min s 2147483647) by omega]
  · exact badP_neg _ _ _ (by omega) (by omega)
theorem badM_v {x s a b : Int} (ha : a = min x 2147483647) (hb : b = max (-2147483647) (min s 2147483647)) : badP a b = badM x s := by rw [ha, hb]; rfl
theorem badM_q {x s a b : Int} (ha : a = min x 2147483647) (hb : b = max (-1) (min s 2147483647)) : badP a b = badM x s := by rw [ha, hb, badM_eq]
theorem ret_i1 {a b : Int} (h : a = b) : Ending.returned (.int .i64 a) = .returned (.int .i64 b) := by rw [h]
set_option maxHeartbeats 1000000 in
theorem vbad_any (x s : Int) (w : World) (hx : 0 ≤ x) : Calls Try.prog 96 #[.int .i64 x, .int .i64 s] w fun e w' => e = .returned (.int .i64 (badM x s)) ∧ Below w.heap.size w w' := by
  go_enter Try.func96, Try.ntmps96
  go_wp2_with (go_at_call 141; refine (vbadness _ _ _ (by omega) (by omega) (by omega) (by omega)).mono ?_; rintro e w1 ⟨rfl, hb⟩)
  all_goals go_ret
  all_goals exact ⟨ret_i1 (badM_v (by omega) (by omega)), hb⟩
set_option maxHeartbeats 1000000 in
theorem qbad_any (x s : Int) (w : World) (hx : 0 ≤ x) : Calls Try.prog 142 #[.int .i64 x, .int .i64 s] w fun e w' => e = .returned (.int .i64 (badM x s)) ∧ Below w.heap.size w w' := by
  go_enter Try.func142, Try.ntmps142
  go_wp2_with (go_at_call 153; refine (qbadness _ _ _ (by omega) (by omega) (by omega) (by omega)).mono ?_; rintro e w1 ⟨rfl, hb⟩)
  all_goals go_ret
  all_goals exact ⟨ret_i1 (badM_q (by omega) (by omega)), hb⟩
theorem badP_range (t s : Int) : 0 ≤ badP t s ∧ badP t s ≤ 10000 ∨ t < 0 := by
  by_cases h : t < 0
  · exact .inr h
  · left
    unfold badP
    split
    · omega
    split
    · omega
    split
    · omega
    have h0 : 0 ≤ badR t s := by
      unfold badR
      split
      · exact Int.ediv_nonneg (by omega) (by omega)
      split
      · exact Int.ediv_nonneg (by omega) (by omega)
      · omega
    obtain ⟨a, b, c, d⟩ := cube_le (badR t s) h0 (by omega)
    omega
theorem badM_range (x s : Int) (h : 0 ≤ x) : 0 ≤ badM x s ∧ badM x s ≤ 10000 := by
  rcases badP_range (min x 2147483647) (max (-2147483647) (min s 2147483647)) with h | h
  · exact h
  · omega
/-- how bad totals are; 1073741823: too high -/
def badT (T : Tt) (h : Int) : Int :=
  if 0 < h - T.nat then (if T.s1 = 0 ∧ T.s2 = 0 ∧ T.s3 = 0 then badM (h - T.nat) T.s0 else 0)
  else if h - T.nat < 0 then (if T.h0 < -(h - T.nat) then 1073741823 else badM (-(h - T.nat)) T.h0) else 0
def costP (T : Tt) (h q : Int) : Int :=
  if badT T h = 1073741823 then 1073741823 else if q ≤ -10000 then q else if badT T h < 10000 then badT T h + q else 100000
end Go.Proofs.Ytkkdopfdoommnaa
namespace Go.Proofs.Ytkkdopfdoommnaa
open Go.ChangeShapes Go.WideShapes Go.ChangeAt Go.RowKit
theorem cost_far {T : Tt} {h q : Int} (hb : badT T h = 1073741823) : 1073741823 = costP T h q := by unfold costP; rw [if_pos hb]
theorem cost_ej {T : Tt} {h q : Int} (hb : badT T h ≤ 10000) (hq : q ≤ -10000) : q = costP T h q := by unfold costP; rw [if_neg (by omega), if_pos hq]
theorem cost_lo {T : Tt} {h q b : Int} (hb : badT T h = b) (hq : -10000 < q) (hl : b < 10000) : b + q = costP T h q := by unfold costP; rw [hb, if_neg (by omega), if_neg (by omega), if_pos hl]
theorem cost_hi {T : Tt} {h q b : Int} (hb : badT T h = b) (hq : -10000 < q) (h2 : b ≤ 10000) (hl : 10000 ≤ b) : 100000 = costP T h q := by unfold costP; rw [hb, if_neg (by omega), if_neg (by omega), if_neg (by omega)]
/-- the three ways of a slack -/
inductive Slack (T : Tt) (h : Int) : Prop where
  | zero : h - T.nat = 0 → badT T h = 0 → Slack T h
  | inf : 0 < h - T.nat → ¬ (T.s1 = 0 ∧ T.s2 = 0 ∧ T.s3 = 0) → badT T h = 0 → Slack T h
  | up : 0 < h - T.nat → T.s1 = 0 → T.s2 = 0 → T.s3 = 0 → badT T h = badM (h - T.nat) T.s0 → Slack T h
  | far : h - T.nat < 0 → T.h0 < -(h - T.nat) → badT T h = 1073741823 → Slack T h
  | down : h - T.nat < 0 → -(h - T.nat) ≤ T.h0 → badT T h = badM (-(h - T.nat)) T.h0 → Slack T h
theorem slack (T : Tt) (h : Int) : Slack T h := by
  by_cases a : 0 < h - T.nat
  · by_cases b : T.s1 = 0 ∧ T.s2 = 0 ∧ T.s3 = 0
    · exact .up a b.1 b.2.1 b.2.2 (by unfold badT; rw [if_pos a, if_pos b])
    · exact .inf a b (by unfold badT; rw [if_pos a, if_neg b])
  · by_cases b : h - T.nat < 0
    · by_cases c : T.h0 < -(h - T.nat)
      · exact .far b c (by unfold badT; rw [if_neg a, if_pos b, if_pos c])
      · exact .down b (by omega) (by unfold badT; rw [if_neg a, if_pos b, if_neg c])
    · exact .zero (by omega) (by unfold badT; rw [if_neg a, if_neg b])
set_option maxRecDepth 100000 in
set_option maxHeartbeats 4000000 in
theorem vcost (T : Tt) (h q : Int) (w : World) (h1 : -1073741823 ≤ h) (h2 : h ≤ 1073741823) (n1 : -1152921504606846976 ≤ T.nat) (n2 : T.nat ≤ 1152921504606846976) (q2 : q ≤ 10000) :
    Calls Try.prog 73 #[.agg T.arr, .int .i64 h, .int .i64 q] w fun e w' => e = .returned (.int .i64 (costP T h q)) ∧ Below w.heap.size w w' := by
  have HS := Lib.hid (slack T h)
  go_enter Try.func73, Try.ntmps73
  go_upto_region 1 with (fail)
  have hT : TAt (w.alloc (.cells T.arr 68)) w.heap.size T := heap_alloc_new w _
  have hb0 : Below w.heap.size w (w.alloc (.cells T.arr 68)) := (Below.refl _ _).alloc (Nat.le_refl _) _
  generalize w.alloc (.cells T.arr 68) = w1 at hT hb0 ⊢
  have c0 := hT.cell 0 _ (Tt.get0 T)
  have c1 := hT.cell 1 _ (Tt.get1 T)
  have c2 := hT.cell 2 _ (Tt.get2 T)
  have c3 := hT.cell 3 _ (Tt.get3 T)
  have c4 := hT.cell 4 _ (Tt.get4 T)
  have c5 := hT.cell 5 _ (Tt.get5 T)
  have HB0 := Lib.hid hb0
  clear hb0
  generalize w.heap.size = X at c0 c1 c2 c3 c4 c5 ⊢
  clear hT
  obtain ⟨g, hg⟩ : ∃ g, h - T.nat = g := ⟨_, rfl⟩
  have hg1 : -1200000000000000000 ≤ g := by omega
  have hg2 : g ≤ 1200000000000000000 := by omega
  rcases HS.out with ⟨a, b⟩ | ⟨a, a', b⟩ | ⟨a, a1, a2, a3, b⟩ | ⟨a, a', b⟩ | ⟨a, a', b⟩
  all_goals (have HB := Lib.hid b; clear HS b)
  · have A := Lib.hid hg
    rw [hg] at a
    subst a
    by_cases hq : q ≤ -10000
    · go_wp2_with fail
      go_ret
      exact ⟨ret_i1 (cost_ej (by rw [HB.out]; omega) hq), HB0.out⟩
    · have hq2 : -10000 < q := by omega
      go_wp2_with fail
      go_ret
      exact ⟨ret_i1 (by simpa using cost_lo HB.out hq2 (by omega)), HB0.out⟩
  · rw [hg] at a
    have a1 : 0 < g := a
    by_cases b1 : T.s1 = 0
    · by_cases b2 : T.s2 = 0
      · have b3 : T.s3 ≠ 0 := fun e => a' ⟨b1, b2, e⟩
        by_cases hq : q ≤ -10000
        · go_wp2_with fail
          go_ret
          exact ⟨ret_i1 (cost_ej (by rw [HB.out]; omega) hq), HB0.out⟩
        · have hq2 : -10000 < q := by omega
          go_wp2_with fail
          go_ret
          exact ⟨ret_i1 (by simpa using cost_lo HB.out hq2 (by omega)), HB0.out⟩
      · by_cases hq : q ≤ -10000
        · go_wp2_with fail
          go_ret
          exact ⟨ret_i1 (cost_ej (by rw [HB.out]; omega) hq), HB0.out⟩
        · have hq2 : -10000 < q := by omega
          go_wp2_with fail
          go_ret
          exact ⟨ret_i1 (by simpa using cost_lo HB.out hq2 (by omega)), HB0.out⟩
    · by_cases hq : q ≤ -10000
      · go_wp2_with fail
        go_ret
        exact ⟨ret_i1 (cost_ej (by rw [HB.out]; omega) hq), HB0.out⟩
      · have hq2 : -10000 < q := by omega
        go_wp2_with fail
        go_ret
        exact ⟨ret_i1 (by simpa using cost_lo HB.out hq2 (by omega)), HB0.out⟩
  · rw [hg] at a HB
    have HA := Lib.hid (vbad_any g T.s0 w1 (by omega))
    have hr := badM_range g T.s0 (by omega)
    generalize badM g T.s0 = b at HB HA hr
    obtain ⟨r1, r2⟩ := hr
    go_wp2_with (go_at_call 96; refine HA.out.mono ?_; rintro e w2 ⟨rfl, hb2⟩; have HB2 := Lib.hid (HB0.out.trans (hb2.mono HB0.out.size)))
    all_goals go_ret
    all_goals first
      | exact ⟨ret_i1 (cost_ej (by rw [HB.out]; omega) (by omega)), HB2.out⟩
      | exact ⟨ret_i1 (cost_lo HB.out (by omega) (by omega)), HB2.out⟩
      | exact ⟨ret_i1 (cost_hi HB.out (by omega) (by omega) (by omega)), HB2.out⟩
  · rw [hg] at a a'
    go_wp2_with fail
    go_ret
    exact ⟨ret_i1 (cost_far HB.out), HB0.out⟩
  · rw [hg] at a a' HB
    have HA := Lib.hid (vbad_any (-g) T.h0 w1 (by omega))
    have hr := badM_range (-g) T.h0 (by omega)
    generalize badM (-g) T.h0 = b at HB HA hr
    obtain ⟨r1, r2⟩ := hr
    go_wp2_with (go_at_call 96; refine HA.out.mono ?_; rintro e w2 ⟨rfl, hb2⟩; have HB2 := Lib.hid (HB0.out.trans (hb2.mono HB0.out.size)))
    all_goals go_ret
    all_goals first
      | exact ⟨ret_i1 (cost_ej (by rw [HB.out]; omega) (by omega)), HB2.out⟩
      | exact ⟨ret_i1 (cost_lo HB.out (by omega) (by omega)), HB2.out⟩
      | exact ⟨ret_i1 (cost_hi HB.out (by omega) (by omega) (by omega)), HB2.out⟩
end Go.Proofs.Ytkkdopfdoommnaa
namespace Go.Proofs.Ytkkdopfdoommnaa
open Go.ChangeShapes Go.WideShapes Go.ChangeAt Go.RowKit
set_option maxRecDepth 100000 in
set_option maxHeartbeats 4000000 in
theorem qBad (T : Tt) (h : Int) (w : World) (h1 : -1073741823 ≤ h) (h2 : h ≤ 1073741823) (n1 : -1152921504606846976 ≤ T.nat) (n2 : T.nat ≤ 1152921504606846976) :
    Calls Try.prog 98 #[.agg T.arr, .int .i64 h] w fun e w' => e = .returned (.int .i64 (badT T h)) ∧ Below w.heap.size w w' := by
  have HS := Lib.hid (slack T h)
  go_enter Try.func98, Try.ntmps98
  go_upto_region 1 with (fail)
  have hT : TAt (w.alloc (.cells T.arr 68)) w.heap.size T := heap_alloc_new w _
  have hb0 : Below w.heap.size w (w.alloc (.cells T.arr 68)) := (Below.refl _ _).alloc (Nat.le_refl _) _
  generalize w.alloc (.cells T.arr 68) = w1 at hT hb0 ⊢
  have c0 := hT.cell 0 _ (Tt.get0 T)
  have c1 := hT.cell 1 _ (Tt.get1 T)
  have c2 := hT.cell 2 _ (Tt.get2 T)
  have c3 := hT.cell 3 _ (Tt.get3 T)
  have c4 := hT.cell 4 _ (Tt.get4 T)
  have c5 := hT.cell 5 _ (Tt.get5 T)
  have HB0 := Lib.hid hb0
  clear hb0
  generalize w.heap.size = X at c0 c1 c2 c3 c4 c5 ⊢
  clear hT
  obtain ⟨g, hg⟩ : ∃ g, h - T.nat = g := ⟨_, rfl⟩
  have hg1 : -1200000000000000000 ≤ g := by omega
  have hg2 : g ≤ 1200000000000000000 := by omega
  rcases HS.out with ⟨a, b⟩ | ⟨a, a', b⟩ | ⟨a, a1, a2, a3, b⟩ | ⟨a, a', b⟩ | ⟨a, a', b⟩
  all_goals (have HB := Lib.hid b; clear HS b)
  · rw [hg] at a
    subst a
    go_wp2_with fail
    go_ret
    exact ⟨ret_i1 HB.out.symm, HB0.out⟩
  · rw [hg] at a
    have hgn : (g == 0) = false := by simp; omega
    by_cases b1 : T.s1 = 0
    · by_cases b2 : T.s2 = 0
      · have b3 : (T.s3 != 0) = true := by simpa using fun e => a' ⟨b1, b2, e⟩
        clear a'
        go_wp2_with fail
        go_ret
        exact ⟨ret_i1 HB.out.symm, HB0.out⟩
      · have b3 : (T.s2 != 0) = true := by simpa using b2
        clear a'
        go_wp2_with fail
        go_ret
        exact ⟨ret_i1 HB.out.symm, HB0.out⟩
    · have b3 : (T.s1 != 0) = true := by simpa using b1
      clear a'
      go_wp2_with fail
      go_ret
      exact ⟨ret_i1 HB.out.symm, HB0.out⟩
  · rw [hg] at a HB
    have hgn : (g == 0) = false := by simp; omega
    have HA := Lib.hid (qbad_any g T.s0 w1 (by omega))
    generalize badM g T.s0 = b at HB HA
    go_wp2_with (go_at_call 142; refine HA.out.mono ?_; rintro e w2 ⟨rfl, hb2⟩; have HB2 := Lib.hid (HB0.out.trans (hb2.mono HB0.out.size)))
    go_ret
    exact ⟨ret_i1 HB.out.symm, HB2.out⟩
  · rw [hg] at a a'
    have hgn : (g == 0) = false := by simp; omega
    go_wp2_with fail
    go_ret
    exact ⟨ret_i1 HB.out.symm, HB0.out⟩
  · rw [hg] at a a' HB
    have hgn : (g == 0) = false := by simp; omega
    have HA := Lib.hid (qbad_any (-g) T.h0 w1 (by omega))
    generalize badM (-g) T.h0 = b at HB HA
    go_wp2_with (go_at_call 142; refine HA.out.mono ?_; rintro e w2 ⟨rfl, hb2⟩; have HB2 := Lib.hid (HB0.out.trans (hb2.mono HB0.out.size)))
    go_ret
    exact ⟨ret_i1 HB.out.symm, HB2.out⟩
def pricedP (b q : Int) : Int := if b = 1073741823 then 1073741823 else if q ≤ -10000 then q else if b < 10000 then b + q else 100000
theorem costP_eq (T : Tt) (h q : Int) : costP T h q = pricedP (badT T h) q := rfl
set_option maxHeartbeats 1000000 in
theorem qPriced (b q : Int) (w : World) (b1 : 0 ≤ b) (b2 : b ≤ 1073741823) (q2 : q ≤ 10000) :
    Calls Try.prog 97 #[.int .i64 b, .int .i64 q] w fun e w' => e = .returned (.int .i64 (pricedP b q)) ∧ w = w' := by
  by_cases h : b = 1073741823
  · subst h
    have H := Lib.hid (show pricedP 1073741823 q = 1073741823 from rfl)
    go_enter Try.func97, Try.ntmps97
    go_wp2
    go_ret
    exact ⟨ret_i1 H.out.symm, rfl⟩
  · have H := Lib.hid (show pricedP b q = if q ≤ -10000 then q else if b < 10000 then b + q else 100000 by unfold pricedP; rw [if_neg h])
    go_enter Try.func97, Try.ntmps97
    go_wp2
    all_goals go_ret
    all_goals first
      | exact ⟨ret_i1 (by rw [H.out, if_pos (by omega)]), rfl⟩
      | exact ⟨ret_i1 (by rw [H.out, if_neg (by omega), if_pos (by omega)]), rfl⟩
      | exact ⟨ret_i1 (by rw [H.out, if_neg (by omega), if_neg (by omega)]), rfl⟩
theorem badT_range (T : Tt) (h : Int) : 0 ≤ badT T h ∧ badT T h ≤ 1073741823 := by
  rcases slack T h with ⟨_, b⟩ | ⟨_, _, b⟩ | ⟨a, _, _, _, b⟩ | ⟨_, _, b⟩ | ⟨a, _, b⟩
  · omega
  · omega
  · have := badM_range (h - T.nat) T.s0 (by omega); omega
  · omega
  · have := badM_range (-(h - T.nat)) T.h0 (by omega); omega
end Go.Proofs.Ytkkdopfdoommnaa
namespace Go.Proofs.Ytkkdopfdoommnaa
open Go.ChangeShapes Go.WideShapes Go.ChangeAt Go.RowKit
theorem meas_bound {L : List Nd} {s : List Nat} (t : Nat) {depth : Int} (hn : ∀ i ∈ s, NdB (nth L i)) (hl : s.length ≤ 2001) (hd : -1073741823 ≤ depth ∧ depth ≤ 1073741823) :
    (-9000000000000 ≤ (measP L s t depth).1.nat ∧ (measP L s t depth).1.nat ≤ 9000000000000) ∧ -1073741823 ≤ (measP L s t depth).2 ∧ (measP L s t depth).2 ≤ 1073741823 := by
  have hla : (aheadP s t).length ≤ s.length := (List.takeWhile_sublist _).length_le
  have h := foldM_ok (depth := depth) (fun i hi => hn i (ahead_sub i hi)) (show (aheadP s t).length ≤ 2001 by omega)
  have h1 := h.nat
  have h2 := h.d
  have hdp : (foldM L depth (aheadP s t)).depth = depth := foldM_depth ..
  unfold measP sizeM
  rw [hdp]
  split
  · exact ⟨⟨by show _ ≤ (foldM L depth (aheadP s t)).t.nat + ((foldM L depth (aheadP s t)).d - depth); omega, by show (foldM L depth (aheadP s t)).t.nat + ((foldM L depth (aheadP s t)).d - depth) ≤ _; omega⟩, hd⟩
  · exact ⟨⟨by show _ ≤ (foldM L depth (aheadP s t)).t.nat; omega, by show (foldM L depth (aheadP s t)).t.nat ≤ _; omega⟩, h2⟩
set_option maxRecDepth 100000 in
set_option maxHeartbeats 4000000 in
theorem qprice (p0 : Option Addr) (b off cap : Nat) (L : List Nd) (s : List Nat) (hs : Items L 0 s) (hk : ∀ x ∈ s, (nth L x).kind ≠ 6) (hnb : ∀ x ∈ s, NdB (nth L x)) (hlen : L.length ≤ 2000) (t : Nat) (ht : t ∈ s ∨ t = L.length) (q height depth : Int) (hd : -1073741823 ≤ depth ∧ depth ≤ 1073741823) (hh : -1073741823 ≤ height ∧ height ≤ 1073741823) (hq : q ≤ 10000) (w : World) (hN : NIn w p0 b off cap L) :
    Calls Try.prog 74 #[.slice p0 L.length cap, .int .i64 (t : Nat), .int .i64 q, .int .i64 height, .int .i64 depth] w fun e w' => e = .returned (.int .i64 (costP (measP L s t depth).1 height q)) ∧ Below w.heap.size w w' := by
  have hm := meas_bound (L := L) t hnb (by have := hs.len; omega) hd
  have HZ := Lib.hid (qsized p0 b off cap L s hs hk hnb hlen t ht depth hd w hN)
  clear hs hk hnb hlen ht hN hd
  obtain ⟨⟨m1, m2⟩, _⟩ := hm
  generalize measP L s t depth = mm at *
  obtain ⟨T, d⟩ := mm
  have HB : Hid (∀ W, Calls Try.prog 98 #[.agg T.arr, .int .i64 height] W fun e w' => e = .returned (.int .i64 (badT T height)) ∧ Below W.heap.size W w') := Lib.hid fun W => qBad T height W hh.1 hh.2 (by show _ ≤ T.nat; have : -9000000000000 ≤ T.nat := m1; omega) (by have : T.nat ≤ 9000000000000 := m2; omega)
  have hr := badT_range T height
  have HP : Hid (∀ W, Calls Try.prog 97 #[.int .i64 (badT T height), .int .i64 q] W fun e w' => e = .returned (.int .i64 (costP T height q)) ∧ W = w') := Lib.hid fun W => by
    rw [costP_eq]; exact qPriced (badT T height) q W hr.1 hr.2 hq
  clear m1 m2 hr hh hq
  generalize badT T height = bb at HB HP
  go_enter Try.func74, Try.ntmps74
  go_wp2_with fail
  refine HZ.out.mono ?_
  clear HZ
  rintro e w1 ⟨rfl, hb1⟩
  go_upto_region 2 with (fail)
  have aT : TAt (w1.alloc (.cells T.arr 68)) w1.heap.size T := heap_alloc_new w1 _
  have hb2 := hb1.alloc hb1.size (.cells T.arr 68)
  generalize w1.alloc (.cells T.arr 68) = w2 at aT hb2 ⊢
  generalize w1.heap.size = X at aT ⊢
  have a0 := aT.agg
  clear aT hb1
  go_wp2_with fail
  refine (HB.out _).mono ?_
  clear HB
  rintro e w3 ⟨rfl, hb3⟩
  have hbF := hb2.trans (hb3.mono hb2.size)
  go_wp2_with (go_at_call 97; refine (HP.out _).mono ?_; rintro e w' ⟨rfl, rfl⟩)
  go_ret
  exact ⟨rfl, hbF⟩
end Go.Proofs.Ytkkdopfdoommnaa
