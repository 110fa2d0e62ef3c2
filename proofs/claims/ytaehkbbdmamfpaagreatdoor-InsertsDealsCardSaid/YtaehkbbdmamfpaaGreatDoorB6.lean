/-
  What a break costs: of totals, a height and a penalty: the program's and the document's.
-/
import Derived.Test.YtaehkbbdmamfpaaGreatDoorI0
import Derived.Test.YtaehkbbdmamfpaaGreatDoorC1
import Derived.Test.YtaehkbbdmamfpaaGreatDoorS4
import Derived.Test.YtaehkbbdmamfpaaGreatDoorS10
import Derived.Test.YtaehkbbdmamfpaaGreatDoorL1
import Derived.WalkMore
set_option maxRecDepth 100000
set_option maxHeartbeats 4000000
namespace Go.Proofs.YtaehkbbdmamfpaaGreatDoor
open Go.ChangeShapes Go.WideShapes Go.ChangeAt Go.RowKit
section
def badM (x s : Int) : Int := badP (min x 2147483647) (max (-2147483647) (min s 2147483647))
theorem badP_neg (t s u : Int) (hs : s < 1) (hu : u < 1) : badP t s = badP t u := by
 unfold badP
 simp only [if_pos hs, if_pos hu]
theorem badM_eq (x s : Int) : badP (min x 2147483647) (max (-1) (min s 2147483647)) = badM x s := by
 unfold badM
 by_cases h : -1 <= min s 2147483647
 · rw [show max (-1) (min s 2147483647) = max (-2147483647) (min s 2147483647) by omega]
 · exact badP_neg _ _ _ (by omega) (by omega)
theorem badM_v {x s a b : Int} (ha : a = min x 2147483647) (hb : b = max (-2147483647) (min s 2147483647)) : badP a b = badM x s := by rw [ha, hb]; rfl
theorem badM_q {x s a b : Int} (ha : a = min x 2147483647) (hb : b = max (-1) (min s 2147483647)) : badP a b = badM x s := by rw [ha, hb, badM_eq]
theorem zan {a b : Int} (h : a = b) : Ending.returned (.int .i64 a) = .returned (.int .i64 b) := by rw [h]
theorem vbad_any (x s : Int) (w : World) (hx : 0 <= x) : Calls Tryz.prog 149 #[.int .i64 x, .int .i64 s] w fun e w' => e = .returned (.int .i64 (badM x s)) /\ Below w.heap.size w w' := by
 go_enter Tryz.func149, Tryz.ntmps149
 go_wp2_with (go_at_call 152; refine (vbadness _ _ _ (by omega) (by omega) (by omega) (by omega)).mono ?_; rintro e w1 ⟨rfl, hb⟩)
 all_goals go_ret
 all_goals exact ⟨zan (badM_v (by omega) (by omega)), hb⟩
theorem qbad_any (x s : Int) (w : World) (hx : 0 <= x) : Calls Tryz.prog 156 #[.int .i64 x, .int .i64 s] w fun e w' => e = .returned (.int .i64 (badM x s)) /\ Below w.heap.size w w' := by
 go_enter Tryz.func156, Tryz.ntmps156
 go_wp2_with (go_at_call 158; refine (qbadness _ _ _ (by omega) (by omega) (by omega) (by omega)).mono ?_; rintro e w1 ⟨rfl, hb⟩)
 all_goals go_ret
 all_goals exact ⟨zan (badM_q (by omega) (by omega)), hb⟩
theorem badP_range (t s : Int) : 0 <= badP t s /\ badP t s <= 10000 \/ t < 0 := by
 by_cases h : t < 0
 · exact .inr h
 ·
  left
  unfold badP
  split
  · omega
  split
  · omega
  split
  · omega
  have h0 : 0 <= badR t s := by
   unfold badR
   split
   · exact Int.ediv_nonneg (by omega) (by omega)
   split
   · exact Int.ediv_nonneg (by omega) (by omega)
   · omega
  obtain ⟨a, b, c, d⟩ := cube_le (badR t s) h0 (by omega)
  omega
theorem badM_range (x s : Int) (h : 0 <= x) : 0 <= badM x s /\ badM x s <= 10000 := by
 rcases badP_range (min x 2147483647) (max (-2147483647) (min s 2147483647)) with h | h
 · exact h
 · omega
def badT (T : Tt) (h : Int) : Int :=
 if 0 < h - T.nat then (if T.s1 = 0 /\ T.s2 = 0 /\ T.s3 = 0 then badM (h - T.nat) T.s0 else 0)
 else if h - T.nat < 0 then (if T.h0 < -(h - T.nat) then 1073741823 else badM (-(h - T.nat)) T.h0) else 0
def zdg (T : Tt) (h q : Int) : Int :=
 if badT T h = 1073741823 then 1073741823 else if q <= -10000 then q else if badT T h < 10000 then badT T h + q else 100000
theorem cost_far {T : Tt} {h q : Int} (hb : badT T h = 1073741823) : 1073741823 = zdg T h q := by unfold zdg; rw [if_pos hb]
theorem cost_ej {T : Tt} {h q : Int} (hb : badT T h <= 10000) (hq : q <= -10000) : q = zdg T h q := by unfold zdg; rw [if_neg (by omega), if_pos hq]
theorem cost_lo {T : Tt} {h q b : Int} (hb : badT T h = b) (hq : -10000 < q) (hl : b < 10000) : b + q = zdg T h q := by unfold zdg; rw [hb, if_neg (by omega), if_neg (by omega), if_pos hl]
theorem cost_hi {T : Tt} {h q b : Int} (hb : badT T h = b) (hq : -10000 < q) (h2 : b <= 10000) (hl : 10000 <= b) : 100000 = zdg T h q := by unfold zdg; rw [hb, if_neg (by omega), if_neg (by omega), if_neg (by omega)]
inductive Slack (T : Tt) (h : Int) : Prop where
 | zero : h - T.nat = 0 -> badT T h = 0 -> Slack T h
 | inf : 0 < h - T.nat -> ¬ (T.s1 = 0 /\ T.s2 = 0 /\ T.s3 = 0) -> badT T h = 0 -> Slack T h
 | up : 0 < h - T.nat -> T.s1 = 0 -> T.s2 = 0 -> T.s3 = 0 -> badT T h = badM (h - T.nat) T.s0 -> Slack T h
 | far : h - T.nat < 0 -> T.h0 < -(h - T.nat) -> badT T h = 1073741823 -> Slack T h
 | down : h - T.nat < 0 -> -(h - T.nat) <= T.h0 -> badT T h = badM (-(h - T.nat)) T.h0 -> Slack T h
theorem slack (T : Tt) (h : Int) : Slack T h := by
 by_cases a : 0 < h - T.nat
 ·
  by_cases b : T.s1 = 0 /\ T.s2 = 0 /\ T.s3 = 0
  · exact .up a b.1 b.2.1 b.2.2 (by unfold badT; rw [if_pos a, if_pos b])
  · exact .inf a b (by unfold badT; rw [if_pos a, if_neg b])
 ·
  by_cases b : h - T.nat < 0
  ·
   by_cases c : T.h0 < -(h - T.nat)
   · exact .far b c (by unfold badT; rw [if_neg a, if_pos b, if_pos c])
   · exact .down b (by omega) (by unfold badT; rw [if_neg a, if_pos b, if_neg c])
  · exact .zero (by omega) (by unfold badT; rw [if_neg a, if_neg b])
theorem vcost (T : Tt) (h q : Int) (w : World) (h1 : -1073741823 <= h) (h2 : h <= 1073741823) (n1 : -1152921504606846976 <= T.nat) (n2 : T.nat <= 1152921504606846976) (q2 : q <= 10000) :
 Calls Tryz.prog 142 #[.agg T.arr, .int .i64 h, .int .i64 q] w fun e w' => e = .returned (.int .i64 (zdg T h q)) /\ Below w.heap.size w w' := by
 have HS := zzh (slack T h)
 go_enter Tryz.func142, Tryz.ntmps142
 go_upto_region 1 with (fail)
 have hT : TAt (w.alloc (.cells T.arr 43)) w.heap.size T := heap_alloc_new w _
 have hb0 : Below w.heap.size w (w.alloc (.cells T.arr 43)) := (Below.refl _ _).alloc (Nat.le_refl _) _
 generalize w.alloc (.cells T.arr 43) = w1 at hT hb0 ⊢
 have c0 := hT.cell 0 _ (Tt.get0 T)
 have c1 := hT.cell 1 _ (Tt.get1 T)
 have c2 := hT.cell 2 _ (Tt.get2 T)
 have c3 := hT.cell 3 _ (Tt.get3 T)
 have c4 := hT.cell 4 _ (Tt.get4 T)
 have c5 := hT.cell 5 _ (Tt.get5 T)
 have HB0 := zzh hb0
 clear hb0
 generalize w.heap.size = X at c0 c1 c2 c3 c4 c5 ⊢
 clear hT
 obtain ⟨g, hg⟩ : ∃ g, h - T.nat = g := ⟨_, rfl⟩
 have hg1 : -1200000000000000000 <= g := by omega
 have hg2 : g <= 1200000000000000000 := by omega
 rcases HS.out with ⟨a, b⟩ | ⟨a, a', b⟩ | ⟨a, a1, a2, a3, b⟩ | ⟨a, a', b⟩ | ⟨a, a', b⟩
 all_goals (have HB := zzh b; clear HS b)
 ·
  have A := zzh hg
  rw [hg] at a
  subst a
  by_cases hq : q <= -10000
  ·
   go_wp2_with fail
   go_ret
   exact ⟨zan (cost_ej (by rw [HB.out]; omega) hq), HB0.out⟩
  ·
   have hq2 : -10000 < q := by omega
   go_wp2_with fail
   go_ret
   exact ⟨zan (by simpa using cost_lo HB.out hq2 (by omega)), HB0.out⟩
 ·
  rw [hg] at a
  have a1 : 0 < g := a
  by_cases b1 : T.s1 = 0
  ·
   by_cases b2 : T.s2 = 0
   ·
    have b3 : T.s3 ≠ 0 := fun e => a' ⟨b1, b2, e⟩
    by_cases hq : q <= -10000
    ·
     go_wp2_with fail
     go_ret
     exact ⟨zan (cost_ej (by rw [HB.out]; omega) hq), HB0.out⟩
    ·
     have hq2 : -10000 < q := by omega
     go_wp2_with fail
     go_ret
     exact ⟨zan (by simpa using cost_lo HB.out hq2 (by omega)), HB0.out⟩
   ·
    by_cases hq : q <= -10000
    ·
     go_wp2_with fail
     go_ret
     exact ⟨zan (cost_ej (by rw [HB.out]; omega) hq), HB0.out⟩
    ·
     have hq2 : -10000 < q := by omega
     go_wp2_with fail
     go_ret
     exact ⟨zan (by simpa using cost_lo HB.out hq2 (by omega)), HB0.out⟩
  ·
   by_cases hq : q <= -10000
   ·
    go_wp2_with fail
    go_ret
    exact ⟨zan (cost_ej (by rw [HB.out]; omega) hq), HB0.out⟩
   ·
    have hq2 : -10000 < q := by omega
    go_wp2_with fail
    go_ret
    exact ⟨zan (by simpa using cost_lo HB.out hq2 (by omega)), HB0.out⟩
 ·
  rw [hg] at a HB
  have HA := zzh (vbad_any g T.s0 w1 (by omega))
  have hr := badM_range g T.s0 (by omega)
  generalize badM g T.s0 = b at HB HA hr
  obtain ⟨r1, r2⟩ := hr
  go_wp2_with (go_at_call 149; refine HA.out.mono ?_; rintro e w2 ⟨rfl, hb2⟩; have HB2 := zzh (HB0.out.trans (hb2.mono HB0.out.size)))
  all_goals go_ret
  all_goals first
   | exact ⟨zan (cost_ej (by rw [HB.out]; omega) (by omega)), HB2.out⟩
   | exact ⟨zan (cost_lo HB.out (by omega) (by omega)), HB2.out⟩
   | exact ⟨zan (cost_hi HB.out (by omega) (by omega) (by omega)), HB2.out⟩
 ·
  rw [hg] at a a'
  go_wp2_with fail
  go_ret
  exact ⟨zan (cost_far HB.out), HB0.out⟩
 ·
  rw [hg] at a a' HB
  have HA := zzh (vbad_any (-g) T.h0 w1 (by omega))
  have hr := badM_range (-g) T.h0 (by omega)
  generalize badM (-g) T.h0 = b at HB HA hr
  obtain ⟨r1, r2⟩ := hr
  go_wp2_with (go_at_call 149; refine HA.out.mono ?_; rintro e w2 ⟨rfl, hb2⟩; have HB2 := zzh (HB0.out.trans (hb2.mono HB0.out.size)))
  all_goals go_ret
  all_goals first
   | exact ⟨zan (cost_ej (by rw [HB.out]; omega) (by omega)), HB2.out⟩
   | exact ⟨zan (cost_lo HB.out (by omega) (by omega)), HB2.out⟩
   | exact ⟨zan (cost_hi HB.out (by omega) (by omega) (by omega)), HB2.out⟩
theorem qBad (T : Tt) (h : Int) (w : World) (h1 : -1073741823 <= h) (h2 : h <= 1073741823) (n1 : -1152921504606846976 <= T.nat) (n2 : T.nat <= 1152921504606846976) :
 Calls Tryz.prog 154 #[.agg T.arr, .int .i64 h] w fun e w' => e = .returned (.int .i64 (badT T h)) /\ Below w.heap.size w w' := by
 have HS := zzh (slack T h)
 go_enter Tryz.func154, Tryz.ntmps154
 go_upto_region 1 with (fail)
 have hT : TAt (w.alloc (.cells T.arr 43)) w.heap.size T := heap_alloc_new w _
 have hb0 : Below w.heap.size w (w.alloc (.cells T.arr 43)) := (Below.refl _ _).alloc (Nat.le_refl _) _
 generalize w.alloc (.cells T.arr 43) = w1 at hT hb0 ⊢
 have c0 := hT.cell 0 _ (Tt.get0 T)
 have c1 := hT.cell 1 _ (Tt.get1 T)
 have c2 := hT.cell 2 _ (Tt.get2 T)
 have c3 := hT.cell 3 _ (Tt.get3 T)
 have c4 := hT.cell 4 _ (Tt.get4 T)
 have c5 := hT.cell 5 _ (Tt.get5 T)
 have HB0 := zzh hb0
 clear hb0
 generalize w.heap.size = X at c0 c1 c2 c3 c4 c5 ⊢
 clear hT
 obtain ⟨g, hg⟩ : ∃ g, h - T.nat = g := ⟨_, rfl⟩
 have hg1 : -1200000000000000000 <= g := by omega
 have hg2 : g <= 1200000000000000000 := by omega
 rcases HS.out with ⟨a, b⟩ | ⟨a, a', b⟩ | ⟨a, a1, a2, a3, b⟩ | ⟨a, a', b⟩ | ⟨a, a', b⟩
 all_goals (have HB := zzh b; clear HS b)
 ·
  rw [hg] at a
  subst a
  go_wp2_with fail
  go_ret
  exact ⟨zan HB.out.symm, HB0.out⟩
 ·
  rw [hg] at a
  have hgn : (g == 0) = false := by simp; omega
  by_cases b1 : T.s1 = 0
  ·
   by_cases b2 : T.s2 = 0
   ·
    have b3 : (T.s3 != 0) = true := by simpa using fun e => a' ⟨b1, b2, e⟩
    clear a'
    go_wp2_with fail
    go_ret
    exact ⟨zan HB.out.symm, HB0.out⟩
   ·
    have b3 : (T.s2 != 0) = true := by simpa using b2
    clear a'
    go_wp2_with fail
    go_ret
    exact ⟨zan HB.out.symm, HB0.out⟩
  ·
   have b3 : (T.s1 != 0) = true := by simpa using b1
   clear a'
   go_wp2_with fail
   go_ret
   exact ⟨zan HB.out.symm, HB0.out⟩
 ·
  rw [hg] at a HB
  have hgn : (g == 0) = false := by simp; omega
  have HA := zzh (qbad_any g T.s0 w1 (by omega))
  generalize badM g T.s0 = b at HB HA
  go_wp2_with (go_at_call 156; refine HA.out.mono ?_; rintro e w2 ⟨rfl, hb2⟩; have HB2 := zzh (HB0.out.trans (hb2.mono HB0.out.size)))
  go_ret
  exact ⟨zan HB.out.symm, HB2.out⟩
 ·
  rw [hg] at a a'
  have hgn : (g == 0) = false := by simp; omega
  go_wp2_with fail
  go_ret
  exact ⟨zan HB.out.symm, HB0.out⟩
 ·
  rw [hg] at a a' HB
  have hgn : (g == 0) = false := by simp; omega
  have HA := zzh (qbad_any (-g) T.h0 w1 (by omega))
  generalize badM (-g) T.h0 = b at HB HA
  go_wp2_with (go_at_call 156; refine HA.out.mono ?_; rintro e w2 ⟨rfl, hb2⟩; have HB2 := zzh (HB0.out.trans (hb2.mono HB0.out.size)))
  go_ret
  exact ⟨zan HB.out.symm, HB2.out⟩
def pricedP (b q : Int) : Int := if b = 1073741823 then 1073741823 else if q <= -10000 then q else if b < 10000 then b + q else 100000
theorem costP_eq (T : Tt) (h q : Int) : zdg T h q = pricedP (badT T h) q := rfl
theorem qPriced (b q : Int) (w : World) (b1 : 0 <= b) (b2 : b <= 1073741823) (q2 : q <= 10000) :
 Calls Tryz.prog 153 #[.int .i64 b, .int .i64 q] w fun e w' => e = .returned (.int .i64 (pricedP b q)) /\ w = w' := by
 by_cases h : b = 1073741823
 ·
  subst h
  have H := zzh (show pricedP 1073741823 q = 1073741823 from rfl)
  go_enter Tryz.func153, Tryz.ntmps153
  go_wp2
  go_ret
  exact ⟨zan H.out.symm, rfl⟩
 ·
  have H := zzh (show pricedP b q = if q <= -10000 then q else if b < 10000 then b + q else 100000 by unfold pricedP; rw [if_neg h])
  go_enter Tryz.func153, Tryz.ntmps153
  go_wp2
  all_goals go_ret
  all_goals first
   | exact ⟨zan (by rw [H.out, if_pos (by omega)]), rfl⟩
   | exact ⟨zan (by rw [H.out, if_neg (by omega), if_pos (by omega)]), rfl⟩
   | exact ⟨zan (by rw [H.out, if_neg (by omega), if_neg (by omega)]), rfl⟩
theorem badT_range (T : Tt) (h : Int) : 0 <= badT T h /\ badT T h <= 1073741823 := by
 rcases slack T h with ⟨_, b⟩ | ⟨_, _, b⟩ | ⟨a, _, _, _, b⟩ | ⟨_, _, b⟩ | ⟨a, _, b⟩
 · omega
 · omega
 · have := badM_range (h - T.nat) T.s0 (by omega); omega
 · omega
 · have := badM_range (-(h - T.nat)) T.h0 (by omega); omega
theorem meas_bound {L : List Nd} {s : List Nat} (t : Nat) {depth : Int} (hn : ∀ i ∈ s, NdB (nth L i)) (hl : s.length <= 2001) (hd : -1073741823 <= depth /\ depth <= 1073741823) :
 (-9000000000000 <= (zap L s t depth).1.nat /\ (zap L s t depth).1.nat <= 9000000000000) /\ -1073741823 <= (zap L s t depth).2 /\ (zap L s t depth).2 <= 1073741823 := by
 have hla : (zaF s t).length <= s.length := (List.takeWhile_sublist _).length_le
 have h := foldM_ok (depth := depth) (fun i hi => hn i (zcq i hi)) (show (zaF s t).length <= 2001 by omega)
 have h1 := h.nat
 have h2 := h.d
 have hdp : (zbn L depth (zaF s t)).depth = depth := zcH ..
 unfold zap sizeM
 rw [hdp]
 split
 · exact ⟨⟨by show _ <= (zbn L depth (zaF s t)).t.nat + ((zbn L depth (zaF s t)).d - depth); omega, by show (zbn L depth (zaF s t)).t.nat + ((zbn L depth (zaF s t)).d - depth) <= _; omega⟩, hd⟩
 · exact ⟨⟨by show _ <= (zbn L depth (zaF s t)).t.nat; omega, by show (zbn L depth (zaF s t)).t.nat <= _; omega⟩, h2⟩
theorem qprice (p0 : Option Addr) (b off cap : Nat) (L : List Nd) (s : List Nat) (hs : Items L 0 s) (hk : ∀ x ∈ s, (nth L x).kind ≠ 6) (hnb : ∀ x ∈ s, NdB (nth L x)) (hlen : L.length <= 2000) (t : Nat) (ht : t ∈ s \/ t = L.length) (q height depth : Int) (hd : -1073741823 <= depth /\ depth <= 1073741823) (hh : -1073741823 <= height /\ height <= 1073741823) (hq : q <= 10000) (w : World) (hN : NIn w p0 b off cap L) :
 Calls Tryz.prog 151 #[.slice p0 L.length cap, .int .i64 (t : Nat), .int .i64 q, .int .i64 height, .int .i64 depth] w fun e w' => e = .returned (.int .i64 (zdg (zap L s t depth).1 height q)) /\ Below w.heap.size w w' := by
 have hm := meas_bound (L := L) t hnb (by have := hs.len; omega) hd
 have HZ := zzh (qsized p0 b off cap L s hs hk hnb hlen t ht depth hd w hN)
 clear hs hk hnb hlen ht hN hd
 obtain ⟨⟨m1, m2⟩, _⟩ := hm
 generalize zap L s t depth = mm at *
 obtain ⟨T, d⟩ := mm
 have HB : Hid (∀ W, Calls Tryz.prog 154 #[.agg T.arr, .int .i64 height] W fun e w' => e = .returned (.int .i64 (badT T height)) /\ Below W.heap.size W w') := zzh fun W => qBad T height W hh.1 hh.2 (by show _ <= T.nat; have : -9000000000000 <= T.nat := m1; omega) (by have : T.nat <= 9000000000000 := m2; omega)
 have hr := badT_range T height
 have HP : Hid (∀ W, Calls Tryz.prog 153 #[.int .i64 (badT T height), .int .i64 q] W fun e w' => e = .returned (.int .i64 (zdg T height q)) /\ W = w') := zzh fun W => by
  rw [costP_eq]; exact qPriced (badT T height) q W hr.1 hr.2 hq
 clear m1 m2 hr hh hq
 generalize badT T height = bb at HB HP
 go_enter Tryz.func151, Tryz.ntmps151
 go_wp2_with fail
 refine HZ.out.mono ?_
 clear HZ
 rintro e w1 ⟨rfl, hb1⟩
 go_upto_region 2 with (fail)
 have aT : TAt (w1.alloc (.cells T.arr 43)) w1.heap.size T := heap_alloc_new w1 _
 have hb2 := hb1.alloc hb1.size (.cells T.arr 43)
 generalize w1.alloc (.cells T.arr 43) = w2 at aT hb2 ⊢
 generalize w1.heap.size = X at aT ⊢
 have a0 := aT.agg
 clear aT hb1
 go_wp2_with fail
 refine (HB.out _).mono ?_
 clear HB
 rintro e w3 ⟨rfl, hb3⟩
 have hbF := hb2.trans (hb3.mono hb2.size)
 go_wp2_with (go_at_call 153; refine (HP.out _).mono ?_; rintro e w' ⟨rfl, rfl⟩)
 go_ret
 exact ⟨rfl, hbF⟩
end
section
theorem runC_app : ∀ (A B : List Nd) (st : List Int) (d : Int), runC (A ++ B) st d = (runC A st d).bind fun s => runC B s.1 s.2
 | [], B, st, d => rfl
 | x :: A, B, st, d => by
  rw [List.cons_append]
  simp only [runC]
  split
  ·
   cases zbY x.kind st d with
   | none => rfl
   | some s => exact runC_app A B s.1 s.2
  · rfl
theorem runC_len : ∀ (A B : List Nd) (st st2 : List Int) (d d2 : Int), runC A st d = some (st2, d2) -> behC (A ++ B) st.length = some A.length -> st2 = []
 | [], B, st, st2, d, d2, _, hb => by
  have := zaw _ _ _ hb
  simp at this
 | x :: A, B, st, st2, d, d2, h, hb => by
  unfold runC at h
  split at h
  ·
   obtain ⟨⟨st', d1⟩, h1, h2⟩ := Option.bind_eq_some_iff.1 h
   obtain ⟨hl, _⟩ := zcS h1
   simp only at h2
   rw [List.cons_append] at hb
   unfold behC at hb
   rw [<- hl] at hb
   split at hb
   ·
    rename_i h0
    have hA : A = [] := by
     simp only [List.length_cons, Option.some.injEq] at hb
     exact List.length_eq_zero_iff.1 (by omega)
    subst hA
    simp only [runC, Option.some.injEq, Prod.mk.injEq] at h2
    rw [<- h2.1]
    exact List.length_eq_zero_iff.1 (by omega)
   ·
    obtain ⟨k, hk, e⟩ := Option.map_eq_some_iff.1 hb
    have : k = A.length := by simp only [List.length_cons] at e; omega
    subst this
    exact runC_len A B st' st2 d1 d2 h2 hk
  · cases h
theorem stepC_dd {k : Int} {st st' : List Int} {d d' : Int} (d0 : Int) (h : zbY k st d = some (st', d')) : d <= d' /\ ∃ e, e <= max d' d0 /\ zbY k st d0 = some (st', e) := by
 unfold zbY at h ⊢
 split at h
 ·
  rename_i h1
  rw [if_pos h1]
  split at h
  · cases h
  ·
   split at h
   · cases h
   ·
    rename_i h2
    cases h
    exact ⟨Int.le_refl _, d0, by omega, by simp only [if_neg h2]⟩
 ·
  rename_i h1
  rw [if_neg h1]
  split at h
  ·
   rename_i h3
   rw [if_pos h3]
   split at h
   · cases h
   ·
    split at h
    · cases h
    ·
     rename_i h2
     cases h
     exact ⟨Int.le_refl _, d0, by omega, by simp only [if_neg h2]⟩
  ·
   rename_i h3
   rw [if_neg h3]
   cases hgl : st.getLast? with
   | none =>
    simp only [hgl, Bool.false_eq_true, if_false] at h ⊢
    cases h
    exact ⟨by omega, max d0 (st.length + 1), by omega, rfl⟩
   | some x =>
    simp only [hgl] at h ⊢
    by_cases hb : (decide (0 <= x) && !zbD k) = true
    · rw [if_pos hb] at h; cases h
    ·
     rw [if_neg hb] at h ⊢
     cases h
     exact ⟨by omega, max d0 (st.length + 1), by omega, rfl⟩
theorem runC_dd : ∀ (l : List Nd) (st st' : List Int) (d d' d0 : Int), runC l st d = some (st', d') -> d <= d' /\ ∃ e, e <= max d' d0 /\ runC l st d0 = some (st', e)
 | [], st, st', d, d', d0, h => by
  unfold runC at h ⊢
  cases h
  exact ⟨Int.le_refl _, d0, by omega, rfl⟩
 | n :: l, st, st', d, d', d0, h => by
  unfold runC at h ⊢
  split at h
  ·
   rename_i hr
   rw [if_pos hr]
   obtain ⟨⟨s1, d1⟩, h1, h2⟩ := Option.bind_eq_some_iff.1 h
   obtain ⟨h3, e1, he1, hs1⟩ := stepC_dd d0 h1
   obtain ⟨h4, e2, he2, hs2⟩ := runC_dd l s1 st' d1 d' e1 h2
   exact ⟨by omega, e2, by omega, by rw [hs1]; exact hs2⟩
  · cases h
end
section
attribute [local go_sem ↓] Go.wp_at_zero Go.wp_at_succ
theorem end9 (p0 : Option Addr) (b off cap : Nat) (L : List Nd) (at_ m : Nat) (w : World) (h : NIn w p0 b off cap L) (hm : behC (L.drop at_) 0 = some m) :
 Calls Tryz.prog 58 #[.slice p0 L.length cap, .int .i64 at_] w fun e w' => e = .returned (.int .i64 ((at_ + m : Nat) : Int)) /\ Below w.heap.size w w' := by
 have H := zzh h
 have hl := h.len
 have Hm := zzh hm
 clear h hm
 go_enter Tryz.func58, Tryz.ntmps58
 go_wp2
 apply wp_scope_straight
 go_wp2
 apply wp_label
 go_wp2
 go_loopg [1, 5] (L.length + 1 - at_) (fun g t1 t5 wr => ∃ (j k : Nat) (n : Int), g = L.length + 1 - j /\ t1 = .int .i64 j /\ t5 = .int .i64 n /\ behC (L.drop j) n = some k /\ j + k = at_ + m /\ (-(j : Int) <= n /\ n <= j) /\ Below w.heap.size w wr)
 case atStart => exact ⟨at_, m, 0, rfl, rfl, rfl, Hm.out, rfl, by omega, .refl _ _⟩
 case round =>
  clear Hm
  obtain ⟨j, k, n, rfl, rfl, rfl, hk, hjk, hn, hbl⟩ := hrel
  have hlt : j < L.length := by have := zaw _ _ _ hk; simp at this; omega
  have hN := H.out.below hbl
  have xa := hN.nd j hlt
  obtain rfl := hN.at_ hlt
  have hj1 : (0 : Int) <= (j : Int) := by omega
  have hj2 : (j : Int) < (L.length : Int) := by omega
  obtain ⟨hn1, hn2⟩ := hn
  have HB := zzh (behC_at hlt hk)
  have Hjk := zzh hjk
  have Hl := zzh hlt
  have HO : Hid (Calls Tryz.prog 47 #[.agg L[j].arr] wr fun e w' => e = .returned (.bool (zaH L[j].kind)) /\ Below wr.heap.size wr w') := zzh (opens_any L[j] wr)
  have HX : Hid (∀ w', Below wr.heap.size wr w' -> w'.cell? ⟨b, off + j * 19, none⟩ = some (.int .i64 L[j].kind)) := zzh fun w' hb => zau ((hN.below hb).nd j hlt) 0 _ rfl
  generalize L[j] = x at xa HO HX HB
  clear hk hjk hlt hN
  cases ho : zaH x.kind
  ·
   rw [ho] at HO
   have Ho := zzh ho
   clear ho
   cases h6 : (x.kind == 6)
   ·
    have hb : behN x.kind n = n := by unfold behN; rw [Ho.out, if_neg (by simp), if_neg (by simpa using h6)]
    have HB := HB.out
    rw [hb] at HB
    clear hb Ho
    rcases HB with ⟨hz, hk1⟩ | ⟨hz, k1, hk1, hk2⟩
    ·
     subst hz
     go_wp2_with (go_at_call 47; refine HO.out.mono ?_; rintro e w2 ⟨rfl, hb2⟩; (have x2 := HX.out _ hb2))
     rw [Exit.noGoto_ret]
     go_ret
     exact ⟨zaD (by have := Hjk.out; omega), hbl.trans (hb2.mono hbl.size)⟩
    ·
     have Hk2 := zzh hk2
     have hz' : (n == 0) = false := by simpa using hz
     clear hk2 hz
     go_wp2_with (go_at_call 47; refine HO.out.mono ?_; rintro e w2 ⟨rfl, hb2⟩; (have x2 := HX.out _ hb2))
     go_roundg (L.length + 1 - (j + 1))
     case measure => have := Hl.out; omega
     case rel => exact ⟨j + 1, k1, n, rfl, by go_num, rfl, Hk2.out, by have := Hjk.out; omega, by omega, hbl.trans (hb2.mono hbl.size)⟩
   ·
    have hb : behN x.kind n = n - 1 := by unfold behN; rw [Ho.out, if_neg (by simp), if_pos (by simpa using h6)]
    have HB := HB.out
    rw [hb] at HB
    clear hb Ho
    rcases HB with ⟨hz, hk1⟩ | ⟨hz, k1, hk1, hk2⟩
    ·
     have hz' : ((n - 1 : Int) == 0) = true := by simpa using hz
     clear hz
     go_wp2_with (go_at_call 47; refine HO.out.mono ?_; rintro e w2 ⟨rfl, hb2⟩; (have x2 := HX.out _ hb2))
     rw [Exit.noGoto_ret]
     go_ret
     exact ⟨zaD (by have := Hjk.out; omega), hbl.trans (hb2.mono hbl.size)⟩
    ·
     have Hk2 := zzh hk2
     have hz' : ((n - 1 : Int) == 0) = false := by simpa using hz
     clear hk2 hz
     go_wp2_with (go_at_call 47; refine HO.out.mono ?_; rintro e w2 ⟨rfl, hb2⟩; (have x2 := HX.out _ hb2))
     go_roundg (L.length + 1 - (j + 1))
     case measure => have := Hl.out; omega
     case rel => exact ⟨j + 1, k1, n - 1, rfl, by go_num, rfl, Hk2.out, by have := Hjk.out; omega, by omega, hbl.trans (hb2.mono hbl.size)⟩
  ·
   rw [ho] at HO
   have hb : behN x.kind n = n + 1 := by unfold behN; rw [ho, if_pos rfl]
   have HB := HB.out
   rw [hb] at HB
   clear hb ho
   rcases HB with ⟨hz, hk1⟩ | ⟨hz, k1, hk1, hk2⟩
   ·
    have hz' : ((n + 1 : Int) == 0) = true := by simpa using hz
    clear hz
    go_wp2_with (go_at_call 47; refine HO.out.mono ?_; rintro e w2 ⟨rfl, hb2⟩)
    rw [Exit.noGoto_ret]
    go_ret
    exact ⟨zaD (by have := Hjk.out; omega), hbl.trans (hb2.mono hbl.size)⟩
   ·
    have Hk2 := zzh hk2
    have hz' : ((n + 1 : Int) == 0) = false := by simpa using hz
    clear hk2 hz
    go_wp2_with (go_at_call 47; refine HO.out.mono ?_; rintro e w2 ⟨rfl, hb2⟩)
    go_roundg (L.length + 1 - (j + 1))
    case measure => have := Hl.out; omega
    case rel => exact ⟨j + 1, k1, n + 1, rfl, by go_num, rfl, Hk2.out, by have := Hjk.out; omega, by omega, hbl.trans (hb2.mono hbl.size)⟩
theorem begins_any (p0 : Option Addr) (b off cap : Nat) (L : List Nd) (x : Nat) (hx : x < L.length) (h6 : (nth L x).kind ≠ 6) (h11 : (nth L x).kind ≠ 11) (w : World) (h : NIn w p0 b off cap L) :
 Calls Tryz.prog 57 #[.slice p0 L.length cap, .int .i64 x] w fun e w' => e = .returned (.bool true) /\ w = w' := by
 have c0 : w.cell? ⟨b, off + x * 19, none⟩ = some (.int .i64 (nth L x).kind) := zau (h.nth hx) 0 _ rfl
 obtain rfl := h.at_ hx
 have hx1 : (0 : Int) <= (x : Int) := by omega
 have hx2 : (x : Int) < (L.length : Int) := by omega
 have k6 : ((nth L x).kind != 6) = true := by simpa using h6
 have k11 : ((nth L x).kind != 11) = true := by simpa using h11
 clear h6 h11 h
 go_enter Tryz.func57, Tryz.ntmps57
 go_wp2_with fail
 go_ret
 exact ⟨rfl, rfl⟩
end
end Go.Proofs.YtaehkbbdmamfpaaGreatDoor
