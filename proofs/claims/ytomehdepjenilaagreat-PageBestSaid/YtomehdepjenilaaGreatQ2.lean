/-
  Layer 5, the document's side: rules, characters.
-/
import Derived.Test.YtomehdepjenilaaGreatQ1
namespace Go.Proofs.YtomehdepjenilaaGreat
open Go.ChangeShapes Go.WideShapes Go.ChangeAt Go.RowKit

def qruleB (n : Nd) : Bool := dims3 n.w n.h n.d && withinB n.sub 0 3 && (n.sub == 0 || n.sub == 2 || n.w == 0) && (n.sub == 0 || n.sub == 1 || (n.h == 0 && n.d == 0)) && eqNd (bareN n) { Nd.zero with kind := 3, sub := n.sub }
set_option maxRecDepth 100000 in
set_option maxHeartbeats 8000000 in
theorem qrule (n : Nd) (w : World) : Calls Tryz.prog 80 #[.agg n.arr] w fun e w' => e = .returned (.bool (qruleB n)) ∧ Below w.heap.size w w' := by
  have hm := NB.new w n
  obtain ⟨-, aa, ag, c0, c1, c2, c4, c5, c3, c6, c12, c13, c14, c15, c16, c17, c18⟩ := hm.seen
  have HBare : Hid (∀ W, NB w n W → Calls Tryz.prog 94 #[.agg n.arr] W fun e w' => e = .returned (.agg (bareN n).arr) ∧ NB w n w') := Lib.hid fun W h => (qbare n W).mono fun _ _ ⟨a, b⟩ => ⟨a, h.call b⟩
  cases h3 : dims3 n.w n.h n.d
  · skip
    have Hv := Lib.hid (show qruleB n = false by simp [qruleB, h3])
    go_enter Tryz.func80, Tryz.ntmps80
    go_upto_region 1 with (fail)
    generalize w.alloc (.cells n.arr 49) = w1 at hm aa ag c0 c1 c2 c4 c5 c3 c6 c12 c13 c14 c15 c16 c17 c18 ⊢
    go_wp2_with (first | (go_at_call 93; refine (qthree _ _).mono ?_; rintro e w2 ⟨rfl, hb2⟩; have hm2 := hm.call hb2; obtain ⟨-, aa, ag, c0, c1, c2, c4, c5, c3, c6, c12, c13, c14, c15, c16, c17, c18⟩ := hm2.seen))
    go_ret
    exact ⟨ret_bool Hv.out.symm, hm2.below⟩
  rcases Int.lt_or_le n.sub 0 with a1 | b1
  · skip
    have Hv := Lib.hid (show qruleB n = false by simp [qruleB, h3, show withinB n.sub 0 3 = false by simp [withinB]; omega])
    go_enter Tryz.func80, Tryz.ntmps80
    go_upto_region 1 with (fail)
    generalize w.alloc (.cells n.arr 49) = w1 at hm aa ag c0 c1 c2 c4 c5 c3 c6 c12 c13 c14 c15 c16 c17 c18 ⊢
    go_wp2_with (first | (go_at_call 93; refine (qthree _ _).mono ?_; rintro e w2 ⟨rfl, hb2⟩; have hm2 := hm.call hb2; obtain ⟨-, aa, ag, c0, c1, c2, c4, c5, c3, c6, c12, c13, c14, c15, c16, c17, c18⟩ := hm2.seen))
    go_ret
    exact ⟨ret_bool Hv.out.symm, hm2.below⟩
  rcases Int.lt_or_le 3 n.sub with a2 | b2
  · skip
    have Hv := Lib.hid (show qruleB n = false by simp [qruleB, h3, show withinB n.sub 0 3 = false by simp [withinB]; omega])
    go_enter Tryz.func80, Tryz.ntmps80
    go_upto_region 1 with (fail)
    generalize w.alloc (.cells n.arr 49) = w1 at hm aa ag c0 c1 c2 c4 c5 c3 c6 c12 c13 c14 c15 c16 c17 c18 ⊢
    go_wp2_with (first | (go_at_call 93; refine (qthree _ _).mono ?_; rintro e w2 ⟨rfl, hb2⟩; have hm2 := hm.call hb2; obtain ⟨-, aa, ag, c0, c1, c2, c4, c5, c3, c6, c12, c13, c14, c15, c16, c17, c18⟩ := hm2.seen))
    go_ret
    exact ⟨ret_bool Hv.out.symm, hm2.below⟩
  skip
  have hk : n.sub = 0 ∨ n.sub = 1 ∨ n.sub = 2 ∨ n.sub = 3 := by omega
  rcases hk with hk | hk | hk | hk
  · skip
    have Hv := Lib.hid (show qruleB n = eqNd (bareN n) { Nd.zero with kind := 3, sub := n.sub } by simp [qruleB, h3, withinB, hk])
    go_enter Tryz.func80, Tryz.ntmps80
    go_upto_region 1 with (fail)
    generalize w.alloc (.cells n.arr 49) = w1 at hm aa ag c0 c1 c2 c4 c5 c3 c6 c12 c13 c14 c15 c16 c17 c18 ⊢
    go_wp2_with (first | (go_at_call 93; refine (qthree _ _).mono ?_; rintro e w2 ⟨rfl, hb2⟩; have hm2 := hm.call hb2; obtain ⟨-, aa, ag, c0, c1, c2, c4, c5, c3, c6, c12, c13, c14, c15, c16, c17, c18⟩ := hm2.seen))
    go_region_held3 (fun w' => NB w n w' ∧ agg? w' w.heap.size 0 19 = some n.arr ∧ agg? w' w.heap.size 7 5 = some n.glue.arr ∧ w'.cell? ⟨w.heap.size, 0, none⟩ = some (.int .i64 n.kind) ∧ w'.cell? ⟨w.heap.size, 1, none⟩ = some (.int .i64 n.font) ∧ w'.cell? ⟨w.heap.size, 2, none⟩ = some (.int .u8 n.char) ∧ w'.cell? ⟨w.heap.size, 4, none⟩ = some (.int .i64 n.h) ∧ w'.cell? ⟨w.heap.size, 5, none⟩ = some (.int .i64 n.d) ∧ w'.cell? ⟨w.heap.size, 3, none⟩ = some (.int .i64 n.w) ∧ w'.cell? ⟨w.heap.size, 6, none⟩ = some (.int .i64 n.shift) ∧ w'.cell? ⟨w.heap.size, 12, none⟩ = some (.int .i64 n.sign) ∧ w'.cell? ⟨w.heap.size, 13, none⟩ = some (.int .i64 n.order) ∧ w'.cell? ⟨w.heap.size, 14, none⟩ = some (.int .i64 n.num) ∧ w'.cell? ⟨w.heap.size, 15, none⟩ = some (.int .i64 n.den) ∧ w'.cell? ⟨w.heap.size, 16, none⟩ = some (.int .i64 n.pen) ∧ w'.cell? ⟨w.heap.size, 17, none⟩ = some (.int .i64 n.sub) ∧ w'.cell? ⟨w.heap.size, 18, none⟩ = some (.string n.text)) ((refine NB.seen ?_; first | assumption | exact hm2.drew)) (((with_reducible refine (HBare.out _ (And.left (by assumption))).mono ?_); rintro e w8 ⟨rfl, h8⟩))
    go_wp2_with fail
    go_ret
    exact ⟨ret_bool (by rw [Hv.out, hk]), h8.below⟩
  · cases x1 : (n.w == 0)
    · have y1 : (n.w != 0) = true := by simpa using x1
      have Hv := Lib.hid (show qruleB n = false by simp [qruleB, h3, withinB, hk, x1])
      go_enter Tryz.func80, Tryz.ntmps80
      go_upto_region 1 with (fail)
      generalize w.alloc (.cells n.arr 49) = w1 at hm aa ag c0 c1 c2 c4 c5 c3 c6 c12 c13 c14 c15 c16 c17 c18 ⊢
      go_wp2_with (first | (go_at_call 93; refine (qthree _ _).mono ?_; rintro e w2 ⟨rfl, hb2⟩; have hm2 := hm.call hb2; obtain ⟨-, aa, ag, c0, c1, c2, c4, c5, c3, c6, c12, c13, c14, c15, c16, c17, c18⟩ := hm2.seen))
      go_ret
      exact ⟨ret_bool Hv.out.symm, hm2.below⟩
    · have y1 : (n.w != 0) = false := by simpa using x1
      have Hv := Lib.hid (show qruleB n = eqNd (bareN n) { Nd.zero with kind := 3, sub := n.sub } by simp [qruleB, h3, withinB, hk, x1])
      go_enter Tryz.func80, Tryz.ntmps80
      go_upto_region 1 with (fail)
      generalize w.alloc (.cells n.arr 49) = w1 at hm aa ag c0 c1 c2 c4 c5 c3 c6 c12 c13 c14 c15 c16 c17 c18 ⊢
      go_wp2_with (first | (go_at_call 93; refine (qthree _ _).mono ?_; rintro e w2 ⟨rfl, hb2⟩; have hm2 := hm.call hb2; obtain ⟨-, aa, ag, c0, c1, c2, c4, c5, c3, c6, c12, c13, c14, c15, c16, c17, c18⟩ := hm2.seen))
      go_region_held3 (fun w' => NB w n w' ∧ agg? w' w.heap.size 0 19 = some n.arr ∧ agg? w' w.heap.size 7 5 = some n.glue.arr ∧ w'.cell? ⟨w.heap.size, 0, none⟩ = some (.int .i64 n.kind) ∧ w'.cell? ⟨w.heap.size, 1, none⟩ = some (.int .i64 n.font) ∧ w'.cell? ⟨w.heap.size, 2, none⟩ = some (.int .u8 n.char) ∧ w'.cell? ⟨w.heap.size, 4, none⟩ = some (.int .i64 n.h) ∧ w'.cell? ⟨w.heap.size, 5, none⟩ = some (.int .i64 n.d) ∧ w'.cell? ⟨w.heap.size, 3, none⟩ = some (.int .i64 n.w) ∧ w'.cell? ⟨w.heap.size, 6, none⟩ = some (.int .i64 n.shift) ∧ w'.cell? ⟨w.heap.size, 12, none⟩ = some (.int .i64 n.sign) ∧ w'.cell? ⟨w.heap.size, 13, none⟩ = some (.int .i64 n.order) ∧ w'.cell? ⟨w.heap.size, 14, none⟩ = some (.int .i64 n.num) ∧ w'.cell? ⟨w.heap.size, 15, none⟩ = some (.int .i64 n.den) ∧ w'.cell? ⟨w.heap.size, 16, none⟩ = some (.int .i64 n.pen) ∧ w'.cell? ⟨w.heap.size, 17, none⟩ = some (.int .i64 n.sub) ∧ w'.cell? ⟨w.heap.size, 18, none⟩ = some (.string n.text)) ((refine NB.seen ?_; first | assumption | exact hm2.drew)) (((with_reducible refine (HBare.out _ (And.left (by assumption))).mono ?_); rintro e w8 ⟨rfl, h8⟩))
      go_wp2_with fail
      go_ret
      exact ⟨ret_bool (by rw [Hv.out, hk]), h8.below⟩
  · skip
    cases x2 : (n.h == 0)
    · have y2 : (n.h != 0) = true := by simpa using x2
      have Hv := Lib.hid (show qruleB n = false by simp [qruleB, h3, withinB, hk, x2])
      go_enter Tryz.func80, Tryz.ntmps80
      go_upto_region 1 with (fail)
      generalize w.alloc (.cells n.arr 49) = w1 at hm aa ag c0 c1 c2 c4 c5 c3 c6 c12 c13 c14 c15 c16 c17 c18 ⊢
      go_wp2_with (first | (go_at_call 93; refine (qthree _ _).mono ?_; rintro e w2 ⟨rfl, hb2⟩; have hm2 := hm.call hb2; obtain ⟨-, aa, ag, c0, c1, c2, c4, c5, c3, c6, c12, c13, c14, c15, c16, c17, c18⟩ := hm2.seen))
      go_ret
      exact ⟨ret_bool Hv.out.symm, hm2.below⟩
    have y2 : (n.h != 0) = false := by simpa using x2
    cases x3 : (n.d == 0)
    · have y3 : (n.d != 0) = true := by simpa using x3
      have Hv := Lib.hid (show qruleB n = false by simp [qruleB, h3, withinB, hk, x2, x3])
      go_enter Tryz.func80, Tryz.ntmps80
      go_upto_region 1 with (fail)
      generalize w.alloc (.cells n.arr 49) = w1 at hm aa ag c0 c1 c2 c4 c5 c3 c6 c12 c13 c14 c15 c16 c17 c18 ⊢
      go_wp2_with (first | (go_at_call 93; refine (qthree _ _).mono ?_; rintro e w2 ⟨rfl, hb2⟩; have hm2 := hm.call hb2; obtain ⟨-, aa, ag, c0, c1, c2, c4, c5, c3, c6, c12, c13, c14, c15, c16, c17, c18⟩ := hm2.seen))
      go_ret
      exact ⟨ret_bool Hv.out.symm, hm2.below⟩
    have y3 : (n.d != 0) = false := by simpa using x3
    have Hv := Lib.hid (show qruleB n = eqNd (bareN n) { Nd.zero with kind := 3, sub := n.sub } by simp [qruleB, h3, withinB, hk, x2, x3])
    go_enter Tryz.func80, Tryz.ntmps80
    go_upto_region 1 with (fail)
    generalize w.alloc (.cells n.arr 49) = w1 at hm aa ag c0 c1 c2 c4 c5 c3 c6 c12 c13 c14 c15 c16 c17 c18 ⊢
    go_wp2_with (first | (go_at_call 93; refine (qthree _ _).mono ?_; rintro e w2 ⟨rfl, hb2⟩; have hm2 := hm.call hb2; obtain ⟨-, aa, ag, c0, c1, c2, c4, c5, c3, c6, c12, c13, c14, c15, c16, c17, c18⟩ := hm2.seen))
    go_region_held3 (fun w' => NB w n w' ∧ agg? w' w.heap.size 0 19 = some n.arr ∧ agg? w' w.heap.size 7 5 = some n.glue.arr ∧ w'.cell? ⟨w.heap.size, 0, none⟩ = some (.int .i64 n.kind) ∧ w'.cell? ⟨w.heap.size, 1, none⟩ = some (.int .i64 n.font) ∧ w'.cell? ⟨w.heap.size, 2, none⟩ = some (.int .u8 n.char) ∧ w'.cell? ⟨w.heap.size, 4, none⟩ = some (.int .i64 n.h) ∧ w'.cell? ⟨w.heap.size, 5, none⟩ = some (.int .i64 n.d) ∧ w'.cell? ⟨w.heap.size, 3, none⟩ = some (.int .i64 n.w) ∧ w'.cell? ⟨w.heap.size, 6, none⟩ = some (.int .i64 n.shift) ∧ w'.cell? ⟨w.heap.size, 12, none⟩ = some (.int .i64 n.sign) ∧ w'.cell? ⟨w.heap.size, 13, none⟩ = some (.int .i64 n.order) ∧ w'.cell? ⟨w.heap.size, 14, none⟩ = some (.int .i64 n.num) ∧ w'.cell? ⟨w.heap.size, 15, none⟩ = some (.int .i64 n.den) ∧ w'.cell? ⟨w.heap.size, 16, none⟩ = some (.int .i64 n.pen) ∧ w'.cell? ⟨w.heap.size, 17, none⟩ = some (.int .i64 n.sub) ∧ w'.cell? ⟨w.heap.size, 18, none⟩ = some (.string n.text)) ((refine NB.seen ?_; first | assumption | exact hm2.drew)) (((with_reducible refine (HBare.out _ (And.left (by assumption))).mono ?_); rintro e w8 ⟨rfl, h8⟩))
    go_wp2_with fail
    go_ret
    exact ⟨ret_bool (by rw [Hv.out, hk]), h8.below⟩
  · skip
    cases x1 : (n.w == 0)
    · have y1 : (n.w != 0) = true := by simpa using x1
      have Hv := Lib.hid (show qruleB n = false by simp [qruleB, h3, withinB, hk, x1])
      go_enter Tryz.func80, Tryz.ntmps80
      go_upto_region 1 with (fail)
      generalize w.alloc (.cells n.arr 49) = w1 at hm aa ag c0 c1 c2 c4 c5 c3 c6 c12 c13 c14 c15 c16 c17 c18 ⊢
      go_wp2_with (first | (go_at_call 93; refine (qthree _ _).mono ?_; rintro e w2 ⟨rfl, hb2⟩; have hm2 := hm.call hb2; obtain ⟨-, aa, ag, c0, c1, c2, c4, c5, c3, c6, c12, c13, c14, c15, c16, c17, c18⟩ := hm2.seen))
      go_ret
      exact ⟨ret_bool Hv.out.symm, hm2.below⟩
    have y1 : (n.w != 0) = false := by simpa using x1
    cases x2 : (n.h == 0)
    · have y2 : (n.h != 0) = true := by simpa using x2
      have Hv := Lib.hid (show qruleB n = false by simp [qruleB, h3, withinB, hk, x1, x2])
      go_enter Tryz.func80, Tryz.ntmps80
      go_upto_region 1 with (fail)
      generalize w.alloc (.cells n.arr 49) = w1 at hm aa ag c0 c1 c2 c4 c5 c3 c6 c12 c13 c14 c15 c16 c17 c18 ⊢
      go_wp2_with (first | (go_at_call 93; refine (qthree _ _).mono ?_; rintro e w2 ⟨rfl, hb2⟩; have hm2 := hm.call hb2; obtain ⟨-, aa, ag, c0, c1, c2, c4, c5, c3, c6, c12, c13, c14, c15, c16, c17, c18⟩ := hm2.seen))
      go_ret
      exact ⟨ret_bool Hv.out.symm, hm2.below⟩
    have y2 : (n.h != 0) = false := by simpa using x2
    cases x3 : (n.d == 0)
    · have y3 : (n.d != 0) = true := by simpa using x3
      have Hv := Lib.hid (show qruleB n = false by simp [qruleB, h3, withinB, hk, x1, x2, x3])
      go_enter Tryz.func80, Tryz.ntmps80
      go_upto_region 1 with (fail)
      generalize w.alloc (.cells n.arr 49) = w1 at hm aa ag c0 c1 c2 c4 c5 c3 c6 c12 c13 c14 c15 c16 c17 c18 ⊢
      go_wp2_with (first | (go_at_call 93; refine (qthree _ _).mono ?_; rintro e w2 ⟨rfl, hb2⟩; have hm2 := hm.call hb2; obtain ⟨-, aa, ag, c0, c1, c2, c4, c5, c3, c6, c12, c13, c14, c15, c16, c17, c18⟩ := hm2.seen))
      go_ret
      exact ⟨ret_bool Hv.out.symm, hm2.below⟩
    have y3 : (n.d != 0) = false := by simpa using x3
    have Hv := Lib.hid (show qruleB n = eqNd (bareN n) { Nd.zero with kind := 3, sub := n.sub } by simp [qruleB, h3, withinB, hk, x1, x2, x3])
    go_enter Tryz.func80, Tryz.ntmps80
    go_upto_region 1 with (fail)
    generalize w.alloc (.cells n.arr 49) = w1 at hm aa ag c0 c1 c2 c4 c5 c3 c6 c12 c13 c14 c15 c16 c17 c18 ⊢
    go_wp2_with (first | (go_at_call 93; refine (qthree _ _).mono ?_; rintro e w2 ⟨rfl, hb2⟩; have hm2 := hm.call hb2; obtain ⟨-, aa, ag, c0, c1, c2, c4, c5, c3, c6, c12, c13, c14, c15, c16, c17, c18⟩ := hm2.seen))
    go_region_held3 (fun w' => NB w n w' ∧ agg? w' w.heap.size 0 19 = some n.arr ∧ agg? w' w.heap.size 7 5 = some n.glue.arr ∧ w'.cell? ⟨w.heap.size, 0, none⟩ = some (.int .i64 n.kind) ∧ w'.cell? ⟨w.heap.size, 1, none⟩ = some (.int .i64 n.font) ∧ w'.cell? ⟨w.heap.size, 2, none⟩ = some (.int .u8 n.char) ∧ w'.cell? ⟨w.heap.size, 4, none⟩ = some (.int .i64 n.h) ∧ w'.cell? ⟨w.heap.size, 5, none⟩ = some (.int .i64 n.d) ∧ w'.cell? ⟨w.heap.size, 3, none⟩ = some (.int .i64 n.w) ∧ w'.cell? ⟨w.heap.size, 6, none⟩ = some (.int .i64 n.shift) ∧ w'.cell? ⟨w.heap.size, 12, none⟩ = some (.int .i64 n.sign) ∧ w'.cell? ⟨w.heap.size, 13, none⟩ = some (.int .i64 n.order) ∧ w'.cell? ⟨w.heap.size, 14, none⟩ = some (.int .i64 n.num) ∧ w'.cell? ⟨w.heap.size, 15, none⟩ = some (.int .i64 n.den) ∧ w'.cell? ⟨w.heap.size, 16, none⟩ = some (.int .i64 n.pen) ∧ w'.cell? ⟨w.heap.size, 17, none⟩ = some (.int .i64 n.sub) ∧ w'.cell? ⟨w.heap.size, 18, none⟩ = some (.string n.text)) ((refine NB.seen ?_; first | assumption | exact hm2.drew)) (((with_reducible refine (HBare.out _ (And.left (by assumption))).mono ?_); rintro e w8 ⟨rfl, h8⟩))
    go_wp2_with fail
    go_ret
    exact ⟨ret_bool (by rw [Hv.out, hk]), h8.below⟩
end Go.Proofs.YtomehdepjenilaaGreat
